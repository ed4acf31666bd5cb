/- Texts of the claim. -/
import Derived.Test.YtoighkablmjfeaaGreatP5qtoZ2
import Derived.Test.YtoighkablmjfeaaGreatAy14toP5p
import Derived.Test.YtoighkablmjfeaaGreatM5gtoP8i
import Derived.Test.YtoighkablmjfeaaGreatD2toAy34
import Derived.Shelf.SortM.Plain
import Derived.Shelf.SortM.SortNone
set_option maxHeartbeats 32000000
set_option maxRecDepth 100000
namespace Go.Proofs.YtoighkablmjfeaaGreat
open Go Go.Ay Go.Pm
def abO (n:Nat)(x:List Nat):Nat->Nat->Nat
 |0,k=>k
 |f+1,k=>if pw n x k=bI n then k else abO n x f (k+1)
def IW (n:Nat)(x:List Nat):Nat:=abO n x 420 1
theorem GP {n:Nat}{x:List Nat}(X:bJ n x): ∀f k,0<k->k<=fC x n->fC x n<=k+f->abO n x f k=fC x n
 |0,k,_,h1,h2=>by show k=_;omega
 |f+1,k,h0,h1,h2=>by
  unfold abO;split
  .rename_i e
   exact Nat.le_antisymm h1 (Nat.le_of_dvd h0 ((mC X k).2 e))
  .rename_i e
   refine GP X f (k+1) om ?_ om
   by_cases h:k=fC x n
   .exact absurd ((mC X k).1 (by rw[h];exact Nat.dvd_refl _)) e
   .omega
theorem acT {n:Nat}{x:List Nat}(X:bJ n x)(a:n<=7):fC x n=IW n x:=
 (GP X 420 1 om (rP X) (by have:=Nat.le_of_dvd om (Zo X a);omega)).symm
def cRb (L:LN)(i j:Nat):Bool:=L.any λc=>bL (L.getD i []) c==L.getD j []
def Xf (L:LN)(i:Nat):List Nat:=(List.range L.length).filter (cRb L i)
def Xt (L:LN):List Nat:=(List.range L.length).filter λj=>(List.range j).all λi=>!cRb L i j
def aiO (n:Nat)(L:LN)(r s:Nat):Bool:=decide (IW n (L.getD r [])<IW n (L.getD s [])\/IW n (L.getD r [])=IW n (L.getD s [])/\((Xf L r).length<(Xf L s).length\/(Xf L r).length=(Xf L s).length/\r<s))
section
variable {n:Nat} {G:List Nat->Prop} {L:LN} {K:List Nat}
theorem ahF (E:fW G L){x y:List Nat}:cj G x y↔(L.any λc=>bL x c==y)=true:=by
 rw[List.any_eq_true];constructor
 .rintro⟨c,hc,e⟩
  exact⟨c,(E.mem c).2 hc,by simpa using e⟩
 .rintro⟨c,hc,e⟩
  exact⟨c,(E.mem c).1 hc,by simpa using e⟩
theorem AH (E:fW G L){i j:Nat}:cR G L i j↔cRb L i j=true:=ahF E
theorem aiD (E:fW G L)(i j:Nat)(d:Decidable (cR G L i j)): @decide (cR G L i j) d=cRb L i j:=by
 rw[Ri,xF];exact AH E
theorem Uk (E:fW G L)(i:Nat):iK G L i=Xf L i:=by
 unfold iK Xf;exact List.filter_congr λj _=>aiD E i j _
theorem WY (E:fW G L):eK G L L.length=Xt L:=by
 unfold eK Xt;refine List.filter_congr λj _=>?_
 classical
 rw[Ri,xF,uR];unfold HN;constructor
 .intro h i hi
  have:=h i (mS.1 hi);rw[AH E] at this;simpa using this
 .intro h i hi
  have:=h i (mS.2 hi);rw[AH E];simpa using this
theorem amP (b:oK n G)(E:fW G L): ∀x∈L,bJ n x:=λx a=>b.cF ((E.mem x).1 a)
theorem YP (a:oK n G)(E:fW G L)(b:n<=7){r:Nat}(c:r<L.length):fC (L.getD r []) n=IW n (L.getD r []):=acT (amP a E _ (bF c)) b
theorem ZD (a:oK n G)(E:fW G L)(b:n<=7){r s:Nat}(d:r<L.length)(c:s<L.length):IH n G L r s↔aiO n L r s=true:=by
 unfold IH aiO;rw[xF,YP a E b d,YP a E b c,Uk E,Uk E]
def KOk (n:Nat)(L:LN)(K:List Nat):Bool:=K.isPerm (Xt L)&&decide (K.Pairwise λr s=>aiO n L r s=true)
theorem KOk.isK (d:oK n G)(E:fW G L)(f:n<=7)(h:KOk n L K=true):vU n G L K:=by
 unfold KOk at h;rw[oD,xF] at h;have p:K.Perm (Xt L):=List.isPerm_iff.1 h.1
 have b: ∀r∈K,r<L.length:=λr a=>by
  have:=p.mem_iff.1 a;unfold Xt at this;exact mS.1 (Gh.1 this).1
 exact⟨by rw[WY E];exact p,List.Pairwise.imp_of_mem (λa c h=>(ZD d E f (b _ a) (b _ c)).2 h) h.2⟩
theorem KOk.eq (b:oK n G)(E:fW G L)(c:n<=7){a:List Nat}(h:KOk n L a=true)(k:vU n G L K):K=a:=k.uniq (KOk.isK b E c h)
end
def amK (n:Nat)(S:LN)(w:List Nat):List Nat:=w.foldl (λx i=>aZ x (S.getD i [])) (bI n)
theorem Yo {n:Nat}{S:LN}:(w:List Nat)->(x:List Nat)->(∀i∈w,i<S.length)->fG n (· ∈S) x->fG n (· ∈S) (w.foldl (λx i=>aZ x (S.getD i [])) x)
 | [],_,_,h=>h
 |i::w,x,hw,h=>Yo w _ (λj a=>hw j (by simp [a])) (h.mul (bF (hw i siM)))
def abT (n:Nat)(S L:LN)(ws:LN):Bool:=
 L==ws.map (amK n S)&&ws.all (λw=>w.all λi=>decide (i<S.length))&&decide (L.Pairwise λx y=>rX x y=true)&&L.all (λx=>x.length==n)&&L.contains (bI n)&&L.all λx=>S.all λg=>L.contains (aZ x g)
theorem abT.amU {n:Nat}{S L:LN}{ws:LN}(h:abT n S L ws=true):fW (fG n (· ∈S)) L:=by
 unfold abT at h;simp only[oD,beq_iff_eq,uR,xF,List.contains_iff_mem] at h;obtain⟨⟨⟨⟨⟨j,f⟩,l⟩,b⟩,k⟩,d⟩:=h;refine⟨List.Pairwise.imp_of_mem (λa i h=>(mO (by rw[b _ a,b _ i])).1 h) l,λx=>⟨λa=>?_,λa=>?_⟩⟩
 .rw[j] at a
  obtain⟨w,c,rfl⟩:=oG.1 a;exact Yo w _ (f w c) .one
 .induction a with
  |one=>exact k
  |mul _ hg ih=>exact d _ ih _ hg
def A4:LN:= [[1,2,0,3], [0,2,3,1]]
def L3:LN:= [[0,1,2], [0,2,1], [1,0,2], [1,2,0], [2,0,1], [2,1,0]]
theorem alK:KOk 3 L3 [0,1,3]=true:=by decide+kernel
def Wm (n:Nat)(x:List Nat):Bool:=x.length==n&&decide x.Nodup&&x.all λp=>decide (p<n)
theorem XG {n:Nat}{x:List Nat}(h:Wm n x=true):bJ n x:=by
 unfold Wm at h;simp only[oD,beq_iff_eq,uR,xF] at h;exact⟨h.1.1,h.1.2,h.2⟩
theorem Ta (h:H)(x y z:Int):lU h 1 [aC 0] 3 [(0,1,aC x),(1,1,aC y),(2,1,aC z)]=some (.sl h.next 0 3 (.kn 3),h.new (.cells false (ints [x,y,z]))):=by
 have e:cJ [aC 0] 3= [aC 0,aC 0,aC 0]:=rfl;simp [lU,fP,e,putAt,V.cells,V.one,ints]
theorem agY (h:H){v u:V}(a:v.cells= [v]/\v.one=true)(b:u.cells= [u]/\u.one=true):lU h 1 [.aH] 2 [(0,1,v),(1,1,u)]=some (.sl h.next 0 2 (.kn 2),h.new (.cells false [v,u])):=by
 have e:cJ [V.aH] 2= [.aH,.aH]:=rfl;simp [lU,fP,e,putAt,a.1,a.2,b.1,b.2]
theorem pG (id o m:Nat)(c:qD):(V.sl id o m c).cells= [.sl id o m c]/\(V.sl id o m c).one=true:=⟨rfl,rfl⟩
theorem mkI {h:H}{ID:Nat}(a:h.next=ID)(l:List Int): ∃x,h.new (.cells false (ints l))=x/\x.next=ID+1/\SI x (.sl ID 0 l.length (.kn l.length)) l/\Fr h x:=by
 obtain⟨x,e,n,g,o,f⟩:=iI a (ints l);exact⟨x,e,n,SV.all (by rw[aE,jP]) om g _,f⟩
theorem SP.two {h h':H}{id:Nat}{v u:V}{a b:List Nat}(d:SI h v (zi a))(i:SI h u (zi b))(c:id<h'.next)(f:Fr h h')(g:h'.get id=cE [v,u])(cap:qD):SP h' (.sl id 0 2 cap) [a,b]:=
 ⟨[v,u],SV.all rfl c g _,d.mono f,i.mono f,trivial⟩
theorem GC.sl {W:Nat->Prop}{h:H}{b:V}{n:Nat}{O:LN}{R:nZ}{G:List Nat->Prop}(g:GC W h b n O R G): ∃vO vR,b= .agg [aC n,vO,vR]/\vO.one=true/\vR.one=true/\dS vO vO=true/\dS vR vR=true:=by
 obtain⟨vO,vR,d,f,e,c,_,_,a,_,_⟩:=g.cw;exact⟨vO,vR,e,c.cT.2.1,a.cT.2.1,c.dS,a.dS⟩
theorem GC.el {W:Nat->Prop}{h:H}{a:V}{n:Nat}{O:LN}{R:nZ}{G:List Nat->Prop}{L:LN}(g:GC W h a n O R G)(E:fW G L):cK O R n 0 (bI n)=L:=(dV g.kT g.isc).1.uniq E
theorem uF {v:V}{h:H}{l:List Int}(s:SI h v l):v.cells= [v]/\v.one=true:=⟨(SV.cT s).1,(SV.cT s).2.1⟩
theorem dT {i:Decidable True}: @decide True i=true:=cV trivial
def SB (h:H)(v:V)(l:List Bool):Prop:=SV h v 1 (l.map V.bool)
theorem SB.mono {h h':H}{v:V}{l:List Bool}(s:SB h v l)(f:Fr h h'):SB h' v l:=SV.mono s f
theorem SB.open {h:H}{v:V}{l:List Bool}(s:SB h v l):dD v=some (aC (l.length:Int))/\ ∃id off,Sl v 1 l.length id off/\ ∀i,i<l.length->id<h.next/\h.cell id (off+i)=some (.bool (l.getD i false)):=by
 have d:(l.map V.bool).length=l.length:=dO ..;refine⟨by unfold dD;rw[SV.len s (n:=l.length) om om];rfl,?_⟩;obtain⟨id,off,c,a,b⟩:=SV.shape s l.length om om;exact⟨id,off,c,λi hi=>⟨a om,by rw[b i om,Al,List.getD,dJ hi];rfl⟩⟩
set_option maxRecDepth 100000
theorem GC.all {W:Nat->Prop}{h:H}{a:V}{n:Nat}{O:LN}{R:nZ}{G:List Nat->Prop}(g:GC W h a n O R G):fW G (cK O R n 0 (bI n))/\(cK O R n 0 (bI n)).length<=5040:=by
 have e:=dV g.kT g.isc;exact⟨e.1,by rw[e.2];exact kF g⟩
def fF (v:V)(id:Nat):Prop:= ∃off m c,v= .sl id off m c
theorem jI.sp' {W:Nat->Prop}{h:H}{v:V}{ws:List V}{l:LN}(sv:SV h v 1 ws)(p:jI W h ws l):SP h v l:=by
 refine⟨ws,sv,?_⟩;have a:=bH.length p
 exact bH.jF (by simpa using a) λi hi b=>by
  have:=(bH.get p i hi om).si;simpa using this
section
variable {h:H} {v:V} {ws:List V} {b k n:Nat} {x y:List Nat} {A S Q:LN}
def Vj (h:H)(v:V)(ws:List V)(b:Nat):Prop:= ∃id cap rest,v= .sl id 0 ws.length cap/\b<=id/\id<h.next/\h.get id=cE (ws++rest)/\(cap= .un 1\/cap= .kn 1/\ws.length+rest.length=1)
theorem Vj.sv (t:Vj h v ws b):SV h v 1 ws:=by
 obtain⟨id,a,c,rfl,i,d,f,_⟩:=t;exact .inr ⟨id,0,_,a,false,_,rfl,(jP _).symm,d,f,by rw[eE];omega,by rw[List.drop_zero,jP,List.take_left' rfl]⟩
theorem Vj.iU {h':H}(t:Vj h v ws b)(m:h.next<=h'.next)(i: ∀id,fF v id->h'.get id=h.get id):Vj h' v ws b:=by
 obtain⟨id,c,a,e,f,l,j,d⟩:=t;exact⟨id,c,a,e,f,om,by rw[i id ⟨_,_,_,e⟩];exact j,d⟩
theorem Vj.in (t:Vj h v ws b){id:Nat}(j:fF v id):b<=id/\id<h.next:=by
 obtain⟨i,f,a,rfl,d,c,_⟩:=t;obtain⟨_,_,_,e⟩:=j;cases e;exact⟨d,c⟩
theorem Vj.pop (t:Vj h v ws b)(q:ws.length=k+1):
  ∃v',pV 1 v none (some (aC k)) none=some v'/\Vj h v' (ws.take k) b/\ ∀id,fF v' id->fF v id:=by
 obtain⟨id,o,a,rfl,j,d,l,m⟩:=t
 have c:(ws.take k).length=k:=by rw[jG];omega
 have f:ws++a=ws.take k++(ws.drop k++a):=by rw[<-AA,List.take_append_drop]
 rcases m with rfl|⟨rfl,r⟩
 .refine⟨_,UM om om,⟨id,_,ws.drop k++a,by rw[c,As],j,d,by rw[l,f],.inl rfl⟩,λi ⟨_,_,_,e⟩=>by cases e;exact⟨_,_,_,rfl⟩⟩
 .refine⟨_,WN om om,⟨id,_,ws.drop k++a,by rw[c,As],j,d,by rw[l,f],.inr ⟨rfl,by rw[c,eE,jR];omega⟩⟩,λi ⟨_,_,_,e⟩=>by cases e;exact⟨_,_,_,rfl⟩⟩
theorem Vj.push {y:V}{S:Nat}{c:qD}(t:Vj h v ws b)(r:SV h (.sl S 0 1 c) 1 [y])(B:b<=h.next)(K:ws.length<1000000):
  ∃v' h',tW h 1 24 v (.sl S 0 1 c)=some (v',h')/\Vj h' v' (ws++ [y]) b/\(∀k,k<h.next-> ¬fF v k->h'.get k=h.get k)/\h.next<=h'.next/\h'.next<=h.next+1/\ ∀k,fF v' k->fF v k\/k=h.next:=by
 have e1:tW h 1 24 v (.sl S 0 1 c)=Ay.tV h 1 24 v 1 [y]:=by
  simp only[tW,r.len (n:=1) rfl om,r.slice]
 rw[e1]
 have q:=t.sv
 have i:=q.len (n:=ws.length) om om
 have l:=q.slice
 obtain⟨id,d,f,rfl,G,w,o,F⟩:=t
 unfold Ay.tV
 simp only[i,l]
 rw[aQ om,aS ⟨om,om⟩]
 have a: ∀g:H,g.next=h.next->(∀k,k<h.next->k≠id->g.get k=h.get k)-> ∃v' h',some (V.sl h.next 0 (ws.length+1) (.un 1),g.new (.cells false (ws++ [y])))=some (v',h')/\Vj h' v' (ws++ [y]) b/\(∀k,k<h.next-> ¬fF (.sl id 0 ws.length d) k->h'.get k=h.get k)/\h.next<=h'.next/\h'.next<=h.next+1/\ ∀k,fF v' k->fF (.sl id 0 ws.length d) k\/k=h.next:=by
  intro g gn u;refine⟨_,_,rfl,⟨h.next,_, [],by rw[eE];rfl,B,by rw[H.aM];omega,by rw[<-gn,H.aI,qH],.inl rfl⟩,λk j m=>?_,by rw[H.aM];omega,by rw[H.aM];omega,λk ⟨_,_,_,e⟩=>by cases e;exact .inr rfl⟩;rw[H.bG g om];exact u k j (λe=>m ⟨_,_,_,by rw[e]⟩)
 rcases F with rfl|⟨rfl,J⟩
 .simp only[o,if_true]
  exact a (h.set id none) rfl (λk _ j=>H.Cj h j none)
 .simp only
  by_cases e:ws.length+1<=1
  .rw[aS e]
   have e0:ws= []:=Zs om
   subst e0
   obtain⟨z,rfl⟩: ∃z,f= [z]:=List.length_eq_one_iff.1 (by simpa using J)
   have s:h.put id (0+([]:List V).length*1) [y]=some (h.set id (cE [y])):=by
    simp [H.put,o,putAt]
   rw[s]
   refine⟨_,_,rfl,⟨id,_, [],rfl,G,w,by rw[H.aJ];rfl,.inr ⟨rfl,rfl⟩⟩,λk j m=>H.Cj h (λe=>m ⟨0,0,.kn 1,by rw[e];rfl⟩) _,dN _,Nat.le_succ _,λk ⟨_,_,_,e⟩=>by cases e;exact .inl ⟨_,_,_,rfl⟩⟩
  .rw[aQ e]
   exact a h rfl (λ_ _ _=>rfl)
def aiR (n:Nat):LN:=(wV n n).filter (Wm n)
theorem UY (X:bJ n x):x∈aiR n:=by
 unfold aiR;rw[Gh];refine⟨X.qY,?_⟩;unfold Wm;simp only[oD,beq_iff_eq,uR,xF];exact⟨⟨X.len,X.nd⟩,X.lt⟩
theorem uX (d:n<=5){l:LN}(nd:l.Nodup)(a: ∀x∈l,bJ n x):l.length<=120:=by
 have h: ∀n,n<=5->(aiR n).length<=120:=by decide+kernel
 exact kQ (List.Nodup.length_le_of_subset nd λx c=>UY (a x c)) (h n d)
theorem Eh {n:Nat}(a:A.Pairwise Lt):A.Nodup:=a.imp λh e=>by rw[e] at h;exact h.irrefl
def My (A:LN)(k:Nat)(y:List Nat):LN:=A.take k++y::A.drop k
theorem nI {z:List Nat}:z∈My A k y↔z=y\/z∈A:=by
 unfold My;rw[Es,Hu];constructor
 .rintro (h|h|h)
  .exact .inr (List.mem_of_mem_take h)
  .exact .inl h
  .exact .inr (List.mem_of_mem_drop h)
 .rintro (h|h)
  .exact .inr (.inl h)
  .rw[<-List.take_append_drop k A,Es] at h
   rcases h with h|h
   .exact .inl h
   .exact .inr (.inr h)
theorem xE:(My A k y).length=A.length+1:=by
 unfold My;rw[eE,List.length_cons,jG,jR];omega
theorem YR {a b:List Nat}(A:bJ n a)(B:bJ n b)(u: ¬Lt a b)(h2:a≠b):Lt b a:=by
 have h: ∃i,i<n/\a.getD i 0≠b.getD i 0:=zL λh=>h2 (rL (by rw[A.len,B.len]) λi hi=>zL λd=>h ⟨i,by rw[<-A.len];exact hi,d⟩)
 obtain⟨i,hi,c⟩:=h
 have t: ∃i,(i<n/\a.getD i 0≠b.getD i 0)/\ ∀j,j<i-> ¬(j<n/\a.getD j 0≠b.getD j 0):=by
  revert hi c
  induction i using Nat.strongRecOn with
  |ind i ih=>
   intro hi c
   by_cases h: ∃j,j<i/\j<n/\a.getD j 0≠b.getD j 0
   .obtain⟨j,d,m,w⟩:=h
    exact ih j d m w
   .exact⟨i,⟨hi,c⟩,λj l o=>h ⟨j,l,o⟩⟩
 obtain⟨k,⟨r,q⟩,f⟩:=t;have s: ∀j,j<k->a.getD j 0=b.getD j 0:=λj l=>zL λd=>f j l ⟨om,d⟩
 rcases Nat.lt_or_gt_of_ne q with m|m
 .exact (u ⟨k,by rw[A.len];exact r,s,m⟩).elim
 .exact⟨k,by rw[B.len];exact r,λj l=>(s j l).symm,m⟩
theorem PN (l: ∀x∈A,bJ n x)(Y:bJ n y)(f:A.Pairwise Lt)(p:Plc A y k)(r:y∉A):(My A k y).Pairwise Lt:=by
 unfold My;rw[List.pairwise_append];have at':{z:List Nat}->z∈A.take k-> ∃i,i<k/\i<A.length/\A.getD i []=z:=λh=>(SW (d:= [])).1 h
 have bt:{z:List Nat}->z∈A.drop k-> ∃i,k<=i/\i<A.length/\A.getD i []=z:=λh=>by
  obtain⟨q,s,e⟩:=Bj.1 h;rw[jR] at s;rw[List.getElem_drop] at e;exact⟨k+q,om,om,by rw[List.getD,dJ om,<-e];rfl⟩
 have o: ∀z∈A.take k,Lt z y:=λz a=>by
  obtain⟨i,m,c,rfl⟩:=at' a;exact (mO (by rw[(l _ (bF c)).len,Y.len])).1 (p.lo i m)
 have hi: ∀z∈A.drop k,Lt y z:=λz a=>by
  obtain⟨i,m,c,rfl⟩:=bt a;have Z:=l _ (bF (d:= []) c);refine YR Z Y (λh=>?_) (λe=>r (by rw[<-e];exact bF c));have:=p.hi i m c;rw[(mO (by rw[Z.len,Y.len])).2 h] at this;cases this
 refine⟨f.sublist (List.take_sublist k A),List.pairwise_cons.2 ⟨hi,f.sublist (List.drop_sublist k A)⟩,λz a w j=>?_⟩;rcases Hu.1 j with rfl|j
 .exact o z a
 .have Z:=l z (List.mem_of_mem_take a)
  exact Lt.trans (by rw[Z.len,Y.len]) (o z a) (hi w j)
structure IA (n:Nat)(S A Q:LN):Prop where
 asc:A.Pairwise Lt
 gen: ∀x∈A,fG n (· ∈S) x
 one:bI n∈A
 sub: ∀x∈Q,x∈A
 cl: ∀x∈A,x∉Q-> ∀g∈S,aZ x g∈A
theorem IA.start (n:Nat)(S:LN):IA n S [bI n] [bI n]:=
 ⟨List.pairwise_singleton _ _,λx a=>by simp at a;subst a;exact .one,siM,λx a=>a,λx a h=>absurd a h⟩
theorem IA.done (j:IA n S A []):fW (fG n (· ∈S)) A:=by
 refine⟨j.asc,λx=>⟨j.gen x,λh=>?_⟩⟩
 induction h with
 |one=>exact j.one
 |mul _ hg ih=>exact j.cl _ ih List.not_mem_nil _ hg
structure KU (n:Nat)(S:LN)(x:List Nat)(i:Nat)(A Q:LN):Prop where
 asc:A.Pairwise Lt
 gen: ∀x∈A,fG n (· ∈S) x
 one:bI n∈A
 sub: ∀x∈Q,x∈A
 mem:x∈A
 cl: ∀z∈A,z∉Q->z=x\/ ∀g∈S,aZ z g∈A
 dn: ∀j,j<i->aZ x (S.getD j [])∈A
theorem KU.start (j:IA n S A (Q++ [x])):KU n S x 0 A Q:=
 ⟨j.asc,j.gen,j.one,λz a=>j.sub z (by simp [a]),j.sub x siM,λz a c=>by
  by_cases e:z=x
  .exact .inl e
  .exact .inr (j.cl z a (by simp [c,e])),λj d=>om⟩
theorem KU.done (j:KU n S x S.length A Q):IA n S A Q:=
 ⟨j.asc,j.gen,j.one,j.sub,λz d c g a=>by
  rcases j.cl z d c with rfl|h
  .obtain⟨i,hi,e⟩:=Bj.1 a
   have:=j.dn i hi;rwa [List.getD,dJ hi,Option.getD_some,e] at this
  .exact h g a⟩
theorem KU.skip {i:Nat}(j:KU n S x i A Q)(h:aZ x (S.getD i [])∈A):KU n S x (i+1) A Q:=
 ⟨j.asc,j.gen,j.one,j.sub,j.mem,j.cl,λk a=>by
  by_cases e:k=i
  .rw[e];exact h
  .exact j.dn k om⟩
theorem KU.step {i:Nat}(j:KU n S x i A Q)(l: ∀g∈S,bJ n g)(hi:i<S.length)(h:aZ x (S.getD i [])∉A)(p:Plc A (aZ x (S.getD i [])) k):KU n S x (i+1) (My A k (aZ x (S.getD i []))) (Q++ [aZ x (S.getD i [])]):=by
 have m:=j.gen x j.mem;have d:fG n (· ∈S) (aZ x (S.getD i [])):=m.mul (bF hi);obtain⟨y,f⟩:=exI (aZ x (S.getD i []));rw[f] at d h p |-;refine⟨PN (λz a=>(j.gen z a).cF l) (d.cF l) j.asc p h,λz a=>?_,nI.2 (.inr j.one),λz a=>?_,nI.2 (.inr j.mem),λz a c=>?_,λq c=>?_⟩
 .rcases nI.1 a with rfl|a
  .exact d
  .exact j.gen z a
 .rcases Es.1 a with a|a
  .exact nI.2 (.inr (j.sub z a))
  .simp at a;exact nI.2 (.inl a)
 .rcases nI.1 a with rfl|a
  .exact absurd siM c
  .rcases j.cl z a (λh=>c (by simp [h])) with e|o
   .exact .inl e
   .exact .inr λg r=>nI.2 (.inr (o g r))
 .by_cases e:q=i
  .rw[e,f];exact nI.2 (.inl rfl)
  .exact nI.2 (.inr (j.dn q om))
theorem NW {A:List V}(a:k<=A.length)(z y:V):(((A++ [z]).take (k+1)++A.drop k).set k y)=A.take k++y::A.drop k:=by
 have c:(A++ [z]).take (k+1)=A.take k++ [(A++ [z]).getD k .undef]:=by
  rw[iW .undef (by rw[eE];simp;omega),List.take_append_of_le_length a]
 rw[c,AA,List.set_append_right _ _ (by rw[jG];omega),jG,Nat.min_eq_left a,Nat.sub_self]
 rfl
theorem jI.My {W:Nat->Prop}{c:List V}(p:jI W h c A)(q:PV W h v y)(i:k<=A.length):jI W h (c.take k++v::c.drop k) (Go.Proofs.YtoighkablmjfeaaGreat.My A k y):=by
 have j:=bH.length p
 have t:(k:Nat)->(c:List V)->(A:LN)->jI W h c A->jI W h (c.take k) (A.take k)/\jI W h (c.drop k) (A.drop k):=by
  intro k
  induction k with
  |zero=>intro c A p;exact⟨trivial,p⟩
  |succ k ih=>
   intro c A p
   cases c with
   |nil=>cases A with
    |nil=>exact⟨trivial,trivial⟩
    |cons=>exact p.elim
   |cons a c=>cases A with
    |nil=>exact p.elim
    |cons b A=>
     obtain⟨f,d⟩:=ih c A p.2
     exact⟨⟨p.1,f⟩,d⟩
 obtain⟨f,d⟩:=t k c A p;exact f.append ⟨q,d⟩
theorem Vj.own (t:Vj h v ws b)(m:0<ws.length):dF h v 1 ws b:=by
 obtain⟨id,d,a,rfl,i,f,j,c⟩:=t;refine .inr ⟨id,ws.length,d,a,rfl,(jP _).symm,?_,i,f,j⟩;rcases c with c|⟨rfl,l⟩
 .exact .inl c
 .have e:ws.length=1:=om
  exact .inr ⟨by rw[e],Zs om⟩
theorem DP {Q m:Nat}(a:k<=m):pV 1 (.sl Q 0 (m+1) (.un 1)) (some (aC k)) none none=some (.sl Q k (m+1-k) (.un 1)):=by
 simp only[pV,mQ];rw[aS ⟨om,om⟩];simp only[if_true,As];rw[aS om,Nat.zero_add,jP]
theorem aeW {Q m:Nat}(a:k<=m):pV 1 (.sl Q 0 (m+1) (.un 1)) (some (aC ((k:Int)+1))) none none=some (.sl Q (if k<m then k+1 else 0) (m-k) (.un 1)):=by
 simp only[pV,mQ];rw[aS ⟨om,om⟩];have e:((k:Int)+1).toNat=k+1:=om
 simp only[if_true,e]
 by_cases h:k<m
 .rw[aS om,aS h]
  simp only[Option.some.injEq,V.sl.injEq,true_and,and_true];omega
 .rw[aQ om,aQ h]
  simp only[Option.some.injEq,V.sl.injEq,true_and,and_true];omega
theorem aaD {Q:Nat}{z:V}(d:k<=ws.length)(c:h.get Q=cE (ws++ [z])):
  Nh h 1 (.sl Q (if k<ws.length then k+1 else 0) (ws.length-k) (.un 1)) (.sl Q k (ws.length+1-k) (.un 1))=some (aC (ws.length-k:Nat),h.set Q (cE ((ws++ [z]).take (k+1)++ws.drop k))):=by
 have e1:oU (.sl Q (if k<ws.length then k+1 else 0) (ws.length-k) (.un 1))=some (ws.length-k):=rfl
 have e2:oU (.sl Q k (ws.length+1-k) (.un 1))=some (ws.length+1-k):=rfl
 have i:min (ws.length+1-k) (ws.length-k)=ws.length-k:=om
 have l:h.row Q k (ws.length-k)=some (ws.drop k):=by
  unfold H.row;rw[c];show sub (ws++ [z]) k (ws.length-k)=_;unfold sub;rw[aS (by rw[eE];omega),List.drop_append_of_le_length d,List.take_left' (by rw[jR])]
 have f:h.put Q (if k<ws.length then k+1 else 0) (ws.drop k)=some (h.set Q (cE ((ws++ [z]).take (k+1)++ws.drop k))):=by
  unfold H.put;rw[c];show (putAt (ws++ [z]) _ (ws.drop k)).map _=_;unfold putAt;have a:(ws++ [z]).length=ws.length+1:=siM
  by_cases h:k<ws.length
  .rw[aS h,aS (by rw[a,jR];omega),jR,show (ws++ [z]).drop _= [] from List.drop_eq_nil_of_le (by rw[a];omega),qH];rfl
  .have e:k=ws.length:=om
   rw[aQ h,aS (by rw[a,jR];omega),e,List.drop_length,qH,qH];have j:(ws++ [z]).take (ws.length+1)=ws++ [z]:=Nb (by rw[a];omega);rw[j];simp
 simp only[Nh,e1,e2,i,jP,l,f]
structure ESt (h hh:H)(va vt:V)(A Q:LN):Prop where
 ex: ∃wa wt,Vj hh va wa h.next/\Vj hh vt wt h.next/\jI (λq=>fF va q\/fF vt q) hh wa A/\jI (λq=>fF va q\/fF vt q) hh wt Q
 uY: ∀q,fF va q-> ¬fF vt q
 fr:Fr h hh
theorem Py (mo n:Nat)(vl:V)(S:LN)(h:H)(n0:1<=n)(n5:n<=5)(hS: ∀g∈S,bJ n g)(hl:S.length<=4096)(i4: ∀A:LN,A.Nodup->(∀x∈A,fG n (· ∈S) x)->A.length<=mo)(hv:SP h vl S):
  Ev T 22 [aC n,vl,aC mo] h (λv h'=> ∃A,fW (fG n (· ∈S)) A/\A.length<=120/\SP h' v A/\Fr h h'):=by
 have lv:=hv.lens
 rw[dO] at lv
 obtain⟨id,off,ws,sh,g1,j6,hc,e6⟩:=hv.open
 rw[dO] at sh g1 j6 hc
 refine lG ?_
 refine (HW n h om).mono ?_
 rintro v1 h1 ⟨s1,f1,l1⟩
 obtain⟨B,hB⟩:=exI h1.next
 obtain⟨G,e2,n2,g2,o2,f2⟩:=iI hB [v1]
 simp(disch:=omega)only[go_sem,dL _ (z:= .aH) (uF s1).1 (uF s1).2,hB,e2]
 refine (HW n G om).mono ?_
 rintro v3 h3 ⟨s3,f3,l3⟩
 obtain⟨C,hC⟩:=exI h3.next
 obtain⟨h4,e4,n4,g4,o4,f4⟩:=iI hC [v3]
 have k1:=f1.next
 have k3:=f3.next
 have F4:=((f1.trans f2).trans f3).trans f4
 have Z:{v:V}->{hh:H}->SI hh v (zi (bI n))->Fr hh h4->(∀id off len j7,v= .sl id off len j7->id≠B/\id≠C)->PV (λq=>fF (.sl B 0 1 (.kn 1)) q\/fF (.sl C 0 1 (.kn 1)) q) h4 v (bI n):=λ{v hh} s f g6=>by
  refine⟨s.mono f,?_⟩
  cases v with
  |sl i o m c=>
   have:=g6 _ _ _ _ rfl;rintro (⟨_,_,_,e⟩|⟨_,_,_,e⟩)
   .cases e;omega
   .cases e;omega
  |_=>trivial
 have c8:ESt h h4 (.sl B 0 1 (.kn 1)) (.sl C 0 1 (.kn 1)) [bI n] [bI n]:=by
  refine⟨⟨[v1], [v3],⟨B,_, [],rfl,om,om,by rw[o4 B om,f3.get B om];exact g2,.inr ⟨rfl,rfl⟩⟩,⟨C,_, [],rfl,om,om,g4,.inr ⟨rfl,rfl⟩⟩,jI.one (Z s1 ((f2.trans f3).trans f4) λi o m c e=>?_),jI.one (Z s3 f4 λi o m c e=>?_)⟩,λq ⟨_,_,_,e⟩ ⟨_,_,_,e2⟩=>by cases e;cases e2;omega,F4⟩
  .have:=SV.in s1 _ _ _ _ e;omega
  .have:=SV.in s3 _ _ _ _ e;have:=l3 _ _ _ _ e;omega
 simp(disch:=omega)only[go_sem,dL _ (z:= .aH) (uF s3).1 (uF s3).2,hC,e4]
 refine aP (λk' F hh=> ∃(A Q:LN) (d l:V),(∃g:Nat->V,F= [aC n,vl,aC mo,g 3,d,l,g 6,g 7,g 8,g 9,g 10,g 11,g 12,g 13,g 14])/\IA n S A Q/\ESt h hh d l A Q/\Q.length<=A.length/\k'=1000- 2*A.length+Q.length) _
  ⟨_,_,_,_,aD rfl,IA.start n S,c8,dN _,rfl⟩ ?_
 clear c8 Z g2 g4 o2 o4 e2 e4 s1 s3 l1 l3 F4 f1 f2 f3 f4 k1 k3 n2 n4 hB hC
 rintro k' F h5 ⟨A,Q,d,l,⟨g,rfl⟩,J,st,l0,rfl⟩
 have AP: ∀x∈A,bJ n x:=λx hx=>(J.gen x hx).cF hS
 have la:=uX n5 (Eh J.asc (n:=n)) AP
 obtain⟨⟨u,wt,ta,tt,pa,pt⟩,uY,fr⟩:=st
 have a4:=bH.length pa
 have b6:=bH.length pt
 have a3:dD l=some (aC (Q.length:Int)):=by unfold dD;rw[SV.len tt.sv (n:=Q.length) om om];rfl
 by_cases w:(0:Int)<(Q.length:Int)
 case neg=>
  have d1:=bZ w;have e0:Q= []:=Zs om;refine eZ a3 d1 ?_;subst e0;exact⟨A,J.done,la,jI.sp' ta.sv pa,fr⟩
 have d1:=cV w
 obtain⟨m,hm⟩: ∃m,Q.length=m+1:=⟨Q.length- 1,om⟩
 have em:(Q.length:Int)- 1=(m:Int):=om
 obtain⟨_,l6,k5,c5,c3⟩:=jI.open tt.sv pt
 obtain⟨_,cx,px⟩:=c3 m om
 obtain⟨x,hx⟩:=exI (Q.getD m [])
 rw[hx] at px
 generalize wt.getD m .undef=vx at cx px
 obtain⟨O,c4,b7,L⟩:=tt.pop (k:=m) om
 have hQ:Q=Q.take m++ [x]:=by
  rw[<-hx,<-iW [] om,Nb om]
 have b4:jI (λq=>fF d q\/fF O q) h5 (wt.take m) (Q.take m):=by
  have t:(k:Nat)->(u:List V)->(A:LN)->jI (λq=>fF d q\/fF l q) h5 u A->jI (λq=>fF d q\/fF l q) h5 (u.take k) (A.take k):=by
   intro k
   induction k with
   |zero=>intro u A p;exact trivial
   |succ k ih=>
    intro u A p
    cases u with
    |nil=>cases A with
     |nil=>exact trivial
     |cons=>exact p.elim
    |cons a u=>cases A with
     |nil=>exact p.elim
     |cons b A=>exact⟨p.1,ih u A p.2⟩
  exact jI.mE (t m wt Q pt) λq _ hw=>hw.imp (λh=>h) (L q)
 have b8:ESt h h5 d O A (Q.take m):=⟨⟨u,wt.take m,ta,b7,jI.mE pa λq _ hw=>hw.imp (λh=>h) (L q),b4⟩,λq h1 G=>uY q h1 (L q G),fr⟩
 have c0:PV (λq=>fF d q\/fF O q) h5 vx x:=PV.mE px λq _ hw=>hw.imp (λh=>h) (L q)
 have J':KU n S x 0 A (Q.take m):=KU.start (by rw[<-hQ];exact J)
 have m1:(Q.take m).length=m:=by rw[jG];omega
 refine wE a3 d1 em @c5.ixa cx c4 ?_
 refine Bu (λvs hh=> ∃(r R:LN) (d l:V),(∃g:Nat->V,vs= [aC n,vl,aC mo,g 3,d,l,g 6,g 7,g 8,g 9,g 10,g 11,g 12,g 13,g 14])/\IA n S r R/\ESt h hh d l r R/\R.length<=r.length/\1000- 2*r.length+R.length<1000- 2*A.length+Q.length) ?_ ?_
 .refine aP (λk' F hh=> ∃(i:Nat) (r R:LN) (d l:V),(∃g:Nat->V,F= [aC n,vl,aC mo,g 3,d,l,vx,aC i,g 8,g 9,g 10,g 11,g 12,g 13,g 14])/\i<=S.length/\KU n S x i r R/\ESt h hh d l r R/\PV (λq=>fF d q\/fF l q) hh vx x/\R.length+A.length+1=r.length+Q.length/\A.length<=r.length/\k'=S.length-i) S.length
   ⟨0,A,Q.take m,d,O,aD rfl,fY _,J',b8,c0,om,dN _,rfl⟩ ?_
  clear b8 c0 J' b4 b7 L c4 uY fr pa pt ta tt a4 b6 a3 cx px c3 c5 O g
  rintro k' F h6 ⟨i,r,R,d,l,⟨g,rfl⟩,hi,J,st,px,c9,b9,rfl⟩
  have c6: ∀x∈r,bJ n x:=λx hx=>(J.gen x hx).cF hS
  have l5:=uX n5 (Eh J.asc (n:=n)) c6
  by_cases d9:(i:Int)<(S.length:Int)
  case neg=>
   have d2:=bZ d9;obtain rfl:i=S.length:=om
   refine eZ lv d2 ?_;exact⟨r,R,d,l,aD rfl,J.done,st,om,om⟩
  have d2:=cV d9
  have a6:i<S.length:=om
  obtain⟨⟨u,wt,ta,tt,pa,pt⟩,uY,fr⟩:=st
  have a4:=bH.length pa
  have b6:=bH.length pt
  have cg:h6.cell id (off+i)=some (ws.getD i .undef):=by rw[fr.cell (g1 om),hc i a6]
  have sg:=(Oi e6 a6).mono fr
  have Gp:bJ n (S.getD i []):=hS _ (bF a6)
  generalize ws.getD i .undef=vg at cg sg
  have X:bJ n x:=c6 x J.mem
  refine jX lv d2 @sh.ixa cg ?_
  refine (Ud vx vg x _ h6 (by rw[X.len];omega) px.si sg (λj hj=>by rw[Gp.len];exact X.eJ (by rw[<-X.len];exact hj))).mono ?_
  rintro vy h7 ⟨sy,f7,l7⟩
  obtain⟨y,hy⟩:=exI (aZ x (S.getD i []))
  have Y:bJ n y:=by rw[<-hy];exact X.mul Gp
  rw[hy] at sy
  have c1:=ta.iU f7.next λq w=>f7.get q (ta.in w).2
  have e3:=tt.iU f7.next λq w=>f7.get q (tt.in w).2
  have f6:=jI.fx pa (Fx.of f7:Fx (λq=>fF d q\/fF l q) h6 h7)
  have j5:=jI.fx pt (Fx.of f7:Fx (λq=>fF d q\/fF l q) h6 h7)
  have j2:=PV.mono px f7
  have e5: ∀q,(fF d q\/fF l q)->q<h6.next:=λq w=>w.elim (λh=>(ta.in h).2) (λh=>(tt.in h).2)
  have i7:PV (λq=>fF d q\/fF l q) h7 vy y:=PV.fresh sy l7 e5
  refine aT ?_
  refine (Yr d vy n r y h7 om om c6 Y J.asc (jI.sp' c1.sv f6) sy).mono ?_
  rintro _ h8 ⟨k,rfl,pk,_,f8⟩
  have a5:=c1.iU f8.next λq w=>f8.get q (c1.in w).2
  have W:=e3.iU f8.next λq w=>f8.get q (e3.in w).2
  have f5:=jI.fx f6 (Fx.of f8:Fx (λq=>fF d q\/fF l q) h7 h8)
  have e8:=jI.fx j5 (Fx.of f8:Fx (λq=>fF d q\/fF l q) h7 h8)
  have g3:=PV.mono j2 f8
  have i9:=PV.mono i7 f8
  have c2:=(fr.trans f7).trans f8
  by_cases a2:y∈r
  .have d3:=cV a2
   refine bM d3 ?_
   rw[fJ i]
   exact⟨S.length-(i+1),om,i+1,r,R,d,l,aD rfl,om,J.skip (by rw[hy];exact a2),⟨⟨u,wt,a5,W,f5,e8⟩,uY,c2⟩,g3,c9,b9,rfl⟩
  have d3:=bZ a2
  have J2:=J.step hS a6 (by rw[hy];exact a2) (by rw[hy];exact pk)
  rw[hy] at J2
  have k0:=uX n5 (Eh J2.asc (n:=n)) (λx hx=>(J2.gen x hx).cF hS)
  rw[xE] at k0
  have h0:dD d=some (aC (r.length:Int)):=by unfold dD;rw[SV.len a5.sv (n:=r.length) om om];rfl
  have i1:=i4 _ (Eh J2.asc (n:=n)) J2.gen
  rw[xE] at i1
  have d4:decide ((mo:Int)<=(r.length:Int))=false:=bZ om
  have l4:0<r.length:=PC J.one
  obtain⟨N,hN⟩:=exI h8.next
  obtain⟨h9,e9,n9,g9,o9,f9⟩:=iI hN [.aH]
  have i5:=(a5.own om).fr f9
  obtain⟨U,d8,b5⟩:=i5.push (bytes:=24) (SV.one om g9 (.kn 1)) (n:=r.length) (m:=1) om rfl om om om
  have l9:=b5.next
  rw[n9] at d8
  have hk:=pk.le
  have i6:U.get (N+1)=cE (u++ [.aH]):=by rw[<-n9];exact b5.get
  obtain⟨hb,i8,m2,d7⟩: ∃hb:H,H.mk U.tr (U.next+8)=hb/\hb.next=U.next+8/\ ∀q,hb.get q=U.get q:=⟨_,rfl,rfl,λ_=>rfl⟩
  have cp:=aaD (k:=k) om ((d7 (N+1)).trans i6)
  rw[a4] at cp
  obtain⟨g5,j3,l2,g8,i3⟩:=xN hb (N+1) ((u++ [V.aH]).take (k+1)++u.drop k)
  rw[j3] at cp
  have d5:decide ((k:Int)<0)=false:=bZ om
  have d6:decide (((r.length+1:Nat):Int)<=(k:Int))=false:=bZ om
  have k4:((u++ [V.aH]).take (k+1)++u.drop k).length=r.length+1:=by
   rw[eE,jG,eE,jR];simp;omega
  have c7:=bE (vs:=(u++ [V.aH]).take (k+1)++u.drop k) (off:=k) om g5 (N+1) vy
  rw[NW om] at c7
  obtain⟨a7,j0,l8,k2,j1⟩:=xN g5 (N+1) (u.take k++vy::u.drop k)
  rw[j0] at c7
  have a8:=uF sy
  have fT: ∀q,q<N-> ¬fF d q->a7.get q=h8.get q:=λq h1 G=>by
   rw[j1 q om,i3 q om,d7,b5.old q om (λi o m c e e2=>G ⟨o,m,c,e2▸e⟩),o9 q om]
  have k6:a7.next=N+10:=om
  have b3:=W.iU (h':=a7) om λq w=>fT q (by have:=(W.in w).2;omega) (λh=>uY q h w)
  obtain⟨P,hP⟩:=exI a7.next
  obtain⟨k8,i0,m4,j9,k7,a9⟩:=iI hP [vy]
  have f0:=b3.iU a9.next λq w=>a9.get q (b3.in w).2
  have m0:=c2.next
  obtain⟨g0,a1,g7,d0,a0,k9,m3,b2⟩:=f0.push (S:=P) (c:= .kn 1) (SV.one om j9 (.kn 1)) om om
  simp(disch:=omega)only[go_sem,d3,h0,d4,dL _ (z:= .aH) (v:= .aH) rfl rfl,hN,e9,d8,aeW hk,DP hk,i8,cp,d5,d6,g8,eH a8.1 a8.2,c7,dL _ (z:= .aH) a8.1 a8.2,hP,i0,g7]
  rw[fJ i]
  have e7: ∀q,fF l q->q<N:=λq w=>by have:=(W.in w).2;omega
  have K: ∀q,q<N-> ¬fF d q-> ¬fF l q->a1.get q=h8.get q:=λq h1 G h3=>by
   rw[a0 q om h3,a9.get q om];exact fT q h1 G
  have xx:Fx (λq=>fF d q\/fF l q) h8 a1:=⟨om,λq h1 G=>K q om (λh=>G (.inl h)) (λh=>G (.inr h))⟩
  have ww: ∀q,q<h8.next->(fF (.sl (N+1) 0 (r.length+1) (.un 1)) q\/fF g0 q)->fF d q\/fF l q:=λq h1 G=>by
   rcases G with ⟨_,_,_,e⟩|G
   .cases e;omega
   .rcases b2 q G with h3|h3
    .exact .inr h3
    .omega
  have i2:a1.get (N+1)=cE (u.take k++vy::u.drop k):=by
   rw[a0 (N+1) om (λh=>by have:=e7 _ h;omega),a9.get (N+1) om];exact k2
  have b1:PV (λq=>fF (.sl (N+1) 0 (r.length+1) (.un 1)) q\/fF g0 q) a1 vy y:=PV.go i9 xx ww
  have b0:=jI.My (jI.go f5 xx ww) b1 (k:=k) om
  have j8:(u.take k++vy::u.drop k).length=r.length+1:=by rw[bH.length b0,xE]
  refine⟨S.length-(i+1),om,i+1,_,_,_,_,aD rfl,om,J2,⟨⟨_,_,⟨N+1,_, [],by rw[j8],om,om,by rw[qH];exact i2,.inl rfl⟩,d0,b0,(jI.go e8 xx ww).append (jI.one b1)⟩,λq ⟨_,_,_,e⟩ G=>?_,⟨om,λq w=>?_⟩⟩,PV.go g3 xx ww,by rw[xE,eE];simp;omega,by rw[xE];omega,rfl⟩
  .cases e
   rcases b2 _ G with h3|h3
   .have:=e7 _ h3;omega
   .omega
  .rw[K q om (λh=>by have:=(a5.in h).1;omega) (λh=>by have:=(W.in h).1;omega)]
   exact c2.get q w
 clear b8 c0 J' b4 b7 L c4 uY fr pa pt ta tt a4 b6 a3 cx px c3 c5 O g
 rintro F h6 ⟨r,R,d,l,⟨g,rfl⟩,J,st,b9,j4⟩
 refine aT ?_
 exact⟨_,j4,r,R,d,l,aD rfl,J,st,b9,rfl⟩
end
section
variable {n i p:Nat} {G:List Nat->Prop} {o:List Nat} {r:LN}
structure CF (n:Nat)(G:List Nat->Prop)(i p:Nat)(o:List Nat)(r:LN):Prop where
 asc:o.Pairwise (· < ·)
 mem: ∀q,q∈o↔q<p/\ ∃x,G x/\Fix i x/\x.getD i 0=q
 len:r.length=o.length
 rep: ∀t,t<o.length->Hr n G i (o.getD t 0) (r.getD t [])
theorem CF.start (n:Nat)(G:List Nat->Prop)(i:Nat):CF n G i 0 [] []:=⟨.nil,λq=>by simp,rfl,λt h=>by cases h⟩
theorem CF.skip (c:CF n G i p o r)(h: ∀x,G x->Fix i x->x.getD i 0≠p):CF n G i (p+1) o r:=
 ⟨c.asc,λq=>by
  rw[c.mem];constructor
  .rintro⟨h1,a⟩;exact⟨om,a⟩
  .rintro⟨h1,x,gx,fx,ex⟩
   refine⟨?_,x,gx,fx,ex⟩;rcases Nat.lt_or_ge q p with a|a
   .exact a
   .exact absurd om (h x gx fx),c.len,c.rep⟩
theorem CF.step (c:CF n G i p o r){x:List Nat}(f:Hr n G i p x):CF n G i (p+1) (o++ [p]) (r++ [x]):=by
 refine⟨List.pairwise_append.2 ⟨c.asc,List.pairwise_singleton _ _,λa l b s=>?_⟩,λq=>?_,by rw[eE,eE,c.len];rfl,λt j=>?_⟩
 .rw[List.mem_singleton.1 s];exact ((c.mem a).1 l).1
 .rw[Es,c.mem,List.mem_singleton]
  constructor
  .rintro (⟨m,h⟩|rfl)
   .exact⟨om,h⟩
   .exact⟨om,x,f.mem,f.fix,f.maps⟩
  .rintro⟨m,h⟩
   rcases Nat.lt_or_ge q p with k|k
   .exact .inl ⟨k,h⟩
   .exact .inr om
 .by_cases e:t=o.length
  .subst e
   have e1:(o++ [p]).getD o.length 0=p:=by simp [List.getD]
   have e2:(r++ [x]).getD o.length []=x:=by rw[<-c.len];exact jS
   rw[e1,e2];exact f
  .have d:t<o.length:=by rw[eE] at j;simp at j;omega
   have e1:(o++ [p]).getD t 0=o.getD t 0:=by simp [List.getD,Aw d]
   rw[e1,lP (by rw[c.len];exact d)];exact c.rep t d
theorem CF.le (c:CF n G i p o r):o.length<=p:=by
 have nd:o.Nodup:=c.asc.imp λh=>om
 have:=List.Nodup.length_le_of_subset nd (l₂:=List.range p) λq a=>mS.2 ((c.mem q).1 a).1
 rwa [gT] at this
theorem MF {A:LN}(E:fW G A){k:Nat}(c:k<A.length)(l:Fix i (A.getD k []))(h2:(A.getD k []).getD i 0=p)(h3: ∀k',k'<k-> ¬((A.getD k' []).getD i 0=p/\Fix i (A.getD k' []))):Hr n G i p (A.getD k []):=by
 refine⟨pX E c,l,h2,λy q j f=>?_⟩;obtain⟨m,b,d⟩:=Bj.1 ((E.mem y).2 q);have a:A.getD m []=y:=by rw[gV,dJ b];exact d
 rcases Nat.lt_trichotomy m k with h|h|h
 .exact absurd ⟨by rw[a];exact f,by rw[a];exact j⟩ (h3 m h)
 .subst h;rw[a];exact .inl rfl
 .rw[<-a]
  have:=Iz.1 E.asc k m c b h;rw[gV,dJ c,gV,dJ b];exact .inr this
end
set_option maxHeartbeats 64000000
def Two (b:Nat)(vo vr:V)(q:Nat):Prop:=q<b\/fF vo q\/fF vr q
theorem Ma (vA:V)(n:Nat)(G:List Nat->Prop)(A:LN)(h:H)(h0:0<n)(hn:n<=7)(hG:oK n G)(E:fW G A)(hA:A.length<=5040)(sA:SP h vA A):
  Ev T 23 [aC n,vA] h (λv h'=> ∃O R',PD (λid=>id<h.next) h' v n O R'/\eD n G O R'/\Fr h h'):=by
 refine mV ?_
 obtain⟨c5,eA,f0,b8,wA,b2,cA⟩:=Il sA
 obtain⟨m,hm⟩:=exI A.length
 rw[hm] at c5 b2 cA
 obtain⟨B,hB⟩:=exI h.next
 have bl:mP [aC 0,.aH,.aH] [(0,1,aC n)]=some (.agg [aC n,.aH,.aH]):=by
  have e1:putAt [aC 0,.aH,.aH] 0 [aC n]=some [aC n,.aH,.aH]:=by simp [putAt]
  simp [mP,fP,e1,V.cells,V.one]
 obtain⟨ha,ea,na,ga,oa,fa⟩:=iI hB [aC 0,.aH,.aH]
 obtain⟨h1,e1,n1,g1,o1,k9⟩:=iI na [aC 0,.aH,.aH]
 obtain⟨l,e2,n2,g2,o2⟩:=xN h1 (B+1) [aC n,.aH,.aH]
 have f2:Fr h l:=⟨om,λq hq=>by rw[o2 q om,o1 q om,oa q om]⟩
 have i6:l.next=B+2:=om
 have e3:l.get B=some (.cells false [aC 0,.aH,.aH]):=by rw[o2 B om,o1 B om];exact ga
 simp(disch:=omega)only[go_sem,aV,hB,ea,na,e1,bl,lY h1 (B+1) 0 (v:= aC n) (u:= .aH) (w:= .aH) rfl rfl rfl,g1,jE,e2]
 refine aP (λU K f=> ∃(i:Nat) (W:Nat->Prop) (O:LN) (R':nZ) (vO Y:V) (d1 c0:List V),(∃g:Nat->V,K= [aC n,vA,.ptr B 0,.ptr (B+1) 0,aC i,g 5,g 6,g 7,g 8,g 9,g 10,g 11,g 12,g 13,g 14,g 15])/\i<=n/\xL h f (B+1) B W n O R' vO Y d1 c0/\
   f.get B=some (.cells false [aC 0,.aH,.aH])/\O.length=i/\R'.length=i/\(∀j,j<i->CF n G j n (O.getD j []) (R'.getD j []))/\U=n-i) n
  ⟨0,_, [], [],_,_,_,_,aD rfl,fY _,xL.start om om om om om f2 g2,e3,rfl,rfl,λj Z=>om,rfl⟩ ?_
 clear f2 g2 e3 n2 i6 o2 e2 g1 o1 e1 n1 k9 ga oa ea na fa
 rintro U K l ⟨i,W,O,R',vO,Y,d1,c0,⟨g,rfl⟩,hi,AC,gB,lO,lR,hC,rfl⟩
 by_cases d9:(i:Int)<(n:Int)
 case neg=>
  have e1:=bZ d9;obtain rfl:i=n:=om
  have hr:=bU AC.get;have nB:=AC.fr.next;refine nW e1 hr (lY l B 0 (v:= aC i) (u:=vO) (w:=Y) rfl (SV.cT AC.oO.sv).2.1 (SV.cT AC.oR.sv).2.1) gB @jE ?_;have g7:=bU (h:=l.set B (some (.cells false [aC i,vO,Y]))) (H.aJ ..);have fB:Fx (· =B) l (l.set B (some (.cells false [aC i,vO,Y]))):=Fx.set l (W:=(· =B)) rfl _;refine bM g7 ?_
  obtain⟨h3,d7⟩: ∃h3,h3=l.set B (some (.cells false [aC i,vO,Y])):=⟨_,rfl⟩
  rw[<-d7] at fB |-;have A3:=AC.box d7;refine⟨O,R',by rw[<-hB];exact A3.chw,⟨lO,lR,λj Z=>(hC j Z).asc,λj Z p=>?_,λj Z=>(hC j Z).len,λj Z=>(hC j Z).rep⟩,A3.fr⟩;rw[(hC j Z).mem];constructor
  .exact λh=>h.2
  .rintro⟨x,gx,fx,ex⟩
   exact⟨by rw[<-ex];exact (hG.cF gx).eJ Z,x,gx,fx,ex⟩
 have e1:=cV d9
 have k7:i<n:=om
 have l9:=sA.mono AC.fr
 refine bM e1 ?_
 obtain⟨h4,i3⟩:=exI l
 subst i3
 refine dG (λvs f=> ∃(F t:V) (q:List Nat) (r:LN),(∃g:Nat->V,vs= [aC n,vA,.ptr B 0,.ptr (B+1) 0,aC i,F,t,g 7,g 8,g 9,g 10,g 11,g 12,g 13,g 14,g 15])/\PV W f F q/\PL W f t r/\CF n G i n q r/\Fr l f) ?_ ?_
 .refine aP (λU vs f=> ∃(p:Nat) (F t:V) (ws:List V) (q:List Nat) (r:LN),(∃g:Nat->V,vs= [aC n,vA,.ptr B 0,.ptr (B+1) 0,aC i,F,t,aC p,g 8,g 9,g 10,g 11,g 12,g 13,g 14,g 15])/\p<=n/\dF f F 1 (ints (zi q)) l.next/\dF f t 1 ws l.next/\jI (Two l.next F t) f ws r/\(∀x,fF F x-> ¬fF t x)/\CF n G i p q r/\Fr l f/\U=n-p) n
   ⟨0,.aH,.aH, [], [], [],aD rfl,fY _,dF.aH _ _ _,dF.aH _ _ _,trivial,(λ_ ⟨_,_,_,e⟩=>by cases e),CF.start n G i,Fr.refl _,rfl⟩ ?_
  rintro U K J ⟨p,F,t,ws,q,r,⟨g,rfl⟩,hp,oo,ow,a0,uY,cp,f5,rfl⟩
  by_cases b9:(p:Int)<(n:Int)
  case neg=>
   have d2:=bZ b9;obtain rfl:p=n:=om
   refine bM d2 ?_;refine⟨F,t,q,r,aD rfl,⟨oo.sv,?_⟩,⟨ws,ow.sv,?_,a0.mE (λid _ h=> .inl (AC.wb id h)),dF.RO ow⟩,cp,f5⟩
   .cases F with
    |sl id s m c=>exact λh=>by have:=(oo.in _ _ _ _ rfl).2.1;have:=AC.wb id h;omega
    |_=>trivial
   .cases t with
    |sl id s m c=>exact λh=>by have:=(ow.in _ _ _ _ rfl).2.1;have:=AC.wb id h;omega
    |_=>trivial
  have d2:=cV b9
  have l7:p<n:=om
  refine bM d2 ?_
  refine Bu (λvs f=> ∃(F t:V) (ws:List V) (q:List Nat) (r:LN),(∃g:Nat->V,vs= [aC n,vA,.ptr B 0,.ptr (B+1) 0,aC i,F,t,aC p,g 8,g 9,g 10,g 11,g 12,g 13,g 14,g 15])/\dF f F 1 (ints (zi q)) l.next/\dF f t 1 ws l.next/\jI (Two l.next F t) f ws r/\(∀x,fF F x-> ¬fF t x)/\CF n G i (p+1) q r/\Fr l f) ?_ ?_
  .refine aP (λU vs f=> ∃(k:Nat),(∃g:Nat->V,vs= [aC n,vA,.ptr B 0,.ptr (B+1) 0,aC i,F,t,aC p,aC k,g 9,g 10,g 11,g 12,g 13,g 14,g 15])/\k<=m/\(∀U,U<k-> ¬((A.getD U []).getD i 0=p/\Fix i (A.getD U [])))/\dF f F 1 (ints (zi q)) l.next/\dF f t 1 ws l.next/\jI (Two l.next F t) f ws r/\Fr l f/\U=m-k) m
    ⟨0,aD rfl,fY _,λU h=>om,oo,ow,a0,f5,rfl⟩ ?_
   clear oo ow a0 f5
   rintro U K h6 ⟨k,⟨g',rfl⟩,L,c1,oo,ow,a0,f6,rfl⟩
   by_cases d5:(k:Int)<(m:Int)
   case neg=>
    have d3:=bZ d5;obtain rfl:k=m:=om
    refine eZ c5 d3 ?_;refine⟨F,t,ws,q,r,aD rfl,oo,ow,a0,uY,cp.skip λx gx fx ex=>?_,f6⟩;obtain⟨j,Z,ej⟩:=Bj.1 ((E.mem x).2 gx);have e9:A.getD j []=x:=by rw[gV,dJ Z];exact ej
    exact c1 j om ⟨by rw[e9];exact ex,by rw[e9];exact fx⟩
   have d3:=cV d5
   have i7:k<m:=om
   obtain⟨bA,c6,sx⟩:=cA k i7
   have F6:=AC.fr.trans f6
   generalize wA.getD k V.undef=vx at c6 sx
   have X:=jZ hG E (show k<A.length by omega)
   obtain⟨x,hx⟩:=exI (A.getD k [])
   rw[hx] at sx X
   have cx:h6.cell f0 (b8+k)=some vx:=by rw[F6.cell bA];exact c6
   obtain⟨idx,f3,c2,f4,c9⟩:=(sx.mono F6).open
   have g4:(zi x).length=n:=by rw[bD,X.len]
   rw[g4] at c2 f4 c9
   have d8: ∀j,j<n->h6.cell idx (f3+j)=some (aC (x.getD j 0:Nat)):=λj Z=>by
    rw[c9 j Z];congr 2;simp [zi,X.len,Z]
   refine wE c5 d3 @b2.ixa cx @c2.ixa (d8 i k7) ?_
   refine dG (λvs f=>f=h6/\ ∃b:Bool,(∃g:Nat->V,vs= [aC n,vA,.ptr B 0,.ptr (B+1) 0,aC i,F,t,aC p,aC k,.bool b,g 10,g 11,g 12,g 13,g 14,g 15])/\(b=true↔x.getD i 0=p/\Fix i x)) ?_ ?_
   .refine aP (λU vs f=>f=h6/\ ∃(j:Nat) (b:Bool),(∃g:Nat->V,vs= [aC n,vA,.ptr B 0,.ptr (B+1) 0,aC i,F,t,aC p,aC k,.bool b,aC j,g 11,g 12,g 13,g 14,g 15])/\j<=i/\(b=true↔x.getD i 0=p/\Fix j x)/\U=i-j) i
     ⟨rfl,0,_,aD rfl,fY _,by rw[xF];exact⟨λh=>⟨om,λj Z=>om⟩,λh=>by rw[h.1]⟩,rfl⟩ ?_
    rintro U K f ⟨rfl,j,b,⟨g,rfl⟩,Z,hb,rfl⟩
    cases b with
    |false=>
     refine bM @abL ?_;refine⟨false,aD rfl,⟨λh=>(by cases h),λh=>?_⟩⟩;exact hb.2 ⟨h.1,λj' k8=>h.2 j' om⟩
    |true=>
     have b1:=hb.1 rfl
     by_cases e8:(j:Int)<(i:Int)
     .have d4:=cV e8
      simp(disch:=omega)only[go_sem,d4,b2.ixa,cx,c2.ixa,d8 j om];rw[fJ j];refine⟨i-(j+1),om,j+1,_,aD rfl,om,?_,rfl⟩;rw[xF];constructor
      .intro h
       refine⟨b1.1,λj' k8=>?_⟩
       by_cases e:j'=j
       .subst e;omega
       .exact b1.2 j' om
      .intro h
       rw[h.2 j om]
     .have d4:=bZ e8
      obtain rfl:j=i:=om
      refine bM d4 ?_;exact⟨true,aD rfl,hb⟩
   rintro K f ⟨rfl,b,⟨g,rfl⟩,hb⟩
   cases b with
   |false=>
    refine aT ?_;rw[fJ k];refine⟨m-(k+1),om,k+1,aD rfl,om,λU l2 h=>?_,oo,ow,a0,f6,rfl⟩
    by_cases e:U=k
    .rw[e,hx] at h
     have:=hb.2 h;cases this
    .exact c1 U om h
   |true=>
    have b1:=hb.1 rfl;have rep:=MF (n:=n) E (show k<A.length by omega) (by rw[hx];exact b1.2) (by rw[hx];exact b1.1) c1;rw[hx] at rep;refine iG @b2.ixa cx @Fp ?_
    obtain⟨hd,a8⟩: ∃hd:H,hd=H.mk ((H.mk f.tr (f.next+2)).new (Ob.cells false (ints [(p:Int)]))).tr (f.next+14):=⟨_,rfl⟩
    rw[<-a8];obtain⟨Q,hQ⟩:=exI (f.next+2);rw[hQ] at a8 |-;have gd:hd.get Q=some (.cells false (ints [(p:Int)])):=by rw[a8];exact H.aI (H.mk f.tr Q) _
    have od: ∀k,k≠Q->hd.get k=f.get k:=λk L=>by rw[a8];exact H.bG (H.mk f.tr Q) L _
    have nd:hd.next=f.next+14:=by rw[a8]
    have fd:Fr f hd:=⟨om,λk L=>od k om⟩
    have n6:=f6.next;have l8:=cp.le;have j9:=oo.fr fd;have i1:=ow.fr fd;have e4:=λid s m c (e:F=V.sl id s m c)=>oo.in id s m c e
    have a1:=λid s m c (e:t=V.sl id s m c)=>ow.in id s m c e
    obtain⟨h7,a7,p7⟩:=j9.push (bytes:=8) (SV.one (v:= aC p) (id:=Q) om gd (.kn 1)) (n:=q.length) (m:=1) (by rw[aE,bD,jP]) rfl om om om;have n7:=p7.next;have b6: ∀k,k<f.next->cW F k->h7.get k=f.get k:=λk h1 l=>by rw[p7.old k om l,od k om]
    have g0: ∀k,k<l.next->cW F k:=λk L id s m c e e2=>by have:=e4 _ _ _ _ e;omega
    have F7:Fr l h7:=⟨om,λk L=>by rw[b6 k om (g0 k L)];exact f6.get k L⟩
    have d6:=AC.fr.trans F7;have j7:h7.cell f0 (b8+k)=some vx:=by rw[d6.cell bA];exact c6
    have i4:=sx.dS;have j6:dF h7 t 1 ws l.next:=i1.mono om λid s m c e _ b0=>p7.old id om λj4 b5 m' c' e' e2=>uY id ⟨b5,m',c',by rw[e2];exact e'⟩ ⟨s,m,c,e⟩
    refine iG a7 j7 i4 ?_;refine (ajA vx (zi x) h7 (sx.mono d6) (by rw[g4];omega)).mono ?_;rintro P h8 ⟨a4,f8,_⟩;have c8:=uF (show SI h8 P (zi x) from a4.sv);have n8:=f8.next;simp(disch:=omega)only[go_sem,dL _ (z:= .aH) c8.1 c8.2]
    obtain⟨he,a6⟩: ∃he:H,he=H.mk ((H.mk h8.tr (f.next+10)).new (Ob.cells false [P])).tr h8.next:=⟨_,rfl⟩
    rw[<-a6];obtain⟨S,hS⟩:=exI (f.next+10);rw[hS] at a6 |-;have ge:he.get S=some (.cells false [P]):=by rw[a6];exact H.aI (H.mk h8.tr S) _
    have oe: ∀k,k≠S->he.get k=h8.get k:=λk L=>by rw[a6];exact H.bG (H.mk h8.tr S) L _
    have ne:he.next=h8.next:=by rw[a6]
    have b7:=λid s m c (e:P=V.sl id s m c)=>a4.in id s m c e
    have k3:dF he t 1 ws l.next:=j6.mono om λid s m c e h1 b0=>by
     have:=(a1 _ _ _ _ e).1;rw[oe id om,f8.get id b0]
    have e5:=bH.length a0;obtain⟨h9,a9,p9⟩:=k3.push (bytes:=24) (SV.one (v:=P) (id:=S) om ge (.kn 1)) (n:=q.length) (m:=1) (by rw[e5,cp.len,jP]) rfl om om om;have n9:=p9.next;refine bM a9 ?_;have c4:{v:V}->{k:Nat}->¬fF v k->cW v k:=λL id s m c e e2=>L ⟨s,m,c,by rw[e2];exact e⟩
    have R: ∀k,k<f.next->cW F k->cW t k->h9.get k=f.get k:=λk h1 l h3=>by rw[p9.old k om h3,oe k om,f8.get k om,b6 k h1 l]
    have i5: ∀k,k<l.next->cW t k:=λk L id s m c e e2=>by have:=a1 _ _ _ _ e;omega
    have fx:Fx (Two l.next F t) f h9:=⟨om,λk h1 l=>R k h1 (c4 λh=>l (.inr (.inl h))) (c4 λh=>l (.inr (.inr h)))⟩
    have hw: ∀k,k<f.next->Two l.next (.sl hd.next 0 (q.length+1) (.un 1)) (.sl he.next 0 (q.length+1) (.un 1)) k->Two l.next F t k:=λk h1 l=>by
     rcases l with h|⟨_,_,_,e⟩|⟨_,_,_,e⟩
     .exact .inl h
     .cases e;omega
     .cases e;omega
    have g3:PV (Two l.next (.sl hd.next 0 (q.length+1) (.un 1)) (.sl he.next 0 (q.length+1) (.un 1))) h9 P x:=by
     have s8:SI h8 P (zi x):=a4.sv;refine⟨SV.fx (W:=λk=>k=S\/fF t k) s8 ?_ ⟨om,λk h1 l=>by rw[p9.old k om (c4 λh=>l (.inr h)),oe k λe=>l (.inl e)]⟩,?_⟩
     .cases P with
      |sl id s m c=>
       have h3:=b7 _ _ _ _ rfl;rintro (e|⟨_,_,_,e⟩)
       .omega
       .have:=a1 _ _ _ _ e;omega
      |_=>trivial
     .cases P with
      |sl id s m c=>
       have h3:=b7 _ _ _ _ rfl;rintro (e|⟨_,_,_,e⟩|⟨_,_,_,e⟩)
       .omega
       .cases e;omega
       .cases e;omega
      |_=>trivial
    have o7:=p7.own (b:=l.next) (by rw[aE,bD,jP]) rfl om;have e7:ints (zi q)++ [aC p]=ints (zi (q++ [p])):=by rw[Im,fQ];rfl
    rw[e7] at o7;refine⟨_,_,ws++ [P],q++ [p],r++ [x],aD rfl,o7.mono om λid s m c e _ h1=>by cases e;rw[p9.old _ om (λid s m c e e2=>by have:=a1 _ _ _ _ e;omega),oe _ om,f8.get _ om],p9.own (by rw[e5,cp.len,jP]) rfl om,(jI.go a0 fx hw).append (jI.one g3),λk ⟨_,_,_,e1⟩ ⟨_,_,_,e2⟩=>by have a:=(V.sl.inj e1).1;have b:=(V.sl.inj e2).1;omega,cp.step rep,⟨om,λk L=>by rw[R k om (g0 k L) (i5 k L)];exact f6.get k L⟩⟩
  rintro K h6 ⟨j1,i9,k6,q',r',⟨g',rfl⟩,i0,i2,f1,d0,k0,f6⟩
  refine aT ?_
  rw[fJ p]
  exact⟨n-(p+1),om,p+1,j1,i9,k6,q',r',aD rfl,om,i0,i2,f1,d0,k0,f6,rfl⟩
 rintro K J ⟨F,t,q,r,⟨g,rfl⟩,f7,pl,l0,f5⟩
 have N:=AC.mono f5
 have wo:F.cells= [F]/\F.one=true:=f7.fX
 have j0:J.get B=some (.cells false [aC 0,.aH,.aH]):=by rw[f5.get B (AC.wb B AC.d)];exact gB
 have cO:J.cell (B+1) 1=some vO:=by rw[H.cell_of N.get];rfl
 have cR:J.cell (B+1) 2=some Y:=by rw[H.cell_of N.get];rfl
 obtain⟨ws,c7,g5,k5,j2⟩:=pl
 have pl:PL W J t r:=⟨ws,c7,g5,k5,j2⟩
 have l3:=N.fr.next
 have f9:=N.wb _ N.c
 simp(disch:=omega)only[go_sem,cO,cR,dL _ (z:= .aH) (v:=F) wo.1 wo.2]
 obtain⟨h6,b3⟩: ∃h6:H,h6=H.mk ((H.mk J.tr (J.next+3)).new (Ob.cells false [F])).tr (J.next+14):=⟨_,rfl⟩
 rw[<-b3]
 have g6:h6.get (J.next+3)=some (.cells false [F]):=by rw[b3];exact H.aI (H.mk J.tr (J.next+3)) _
 have n6:h6.next=J.next+14:=by rw[b3]
 have o6: ∀k,k≠J.next+3->h6.get k=J.get k:=λk L=>by rw[b3];exact H.bG (H.mk J.tr (J.next+3)) (by simpa using L) _
 have f6:Fr J h6:=⟨om,λid b0=>o6 id om⟩
 have l6:=bH.length N.aO
 have l4:=bH.length N.aR
 obtain⟨h7,a7,p7⟩:=(N.oO.fr f6).push (bytes:=24) (SV.one om g6 (.kn 1)) (n:=i) (m:=1) om rfl om om om
 have n7:=p7.next
 have a3: ∀k,k<J.next->cW vO k->h7.get k=J.get k:=λk h1 l=>by rw[p7.old k om l,o6 k om]
 have i8:h7.cell (B+1) 2=some Y:=by unfold H.cell;rw[a3 (B+1) f9 N.pO,N.get];rfl
 have eR:dS Y Y=true:=N.oR.sv.dS
 have e6:t.cells= [t]/\t.one=true:=⟨(SV.cT c7).1,(SV.cT c7).2.1⟩
 simp(disch:=omega)only[go_sem,a7,i8,eR,dL _ (z:= .aH) e6.1 e6.2]
 obtain⟨h8,b4⟩: ∃h8:H,h8=H.mk ((H.mk h7.tr (J.next+8)).new (Ob.cells false [t])).tr h7.next:=⟨_,rfl⟩
 rw[<-b4]
 have g8:h8.get (J.next+8)=some (.cells false [t]):=by rw[b4];exact H.aI (H.mk h7.tr (J.next+8)) _
 have n8:h8.next=h7.next:=by rw[b4]
 have o8: ∀k,k≠J.next+8->h8.get k=h7.get k:=λk L=>by rw[b4];exact H.bG (H.mk h7.tr (J.next+8)) (by simpa using L) _
 have g9:dF h8 Y 1 c0 h.next:=N.oR.mono om λid s m c e _ b0=>by
  rw[o8 id om,a3 id b0 (λj4 b5 n' c' e' e2=>N.uY _ _ _ _ e' _ _ _ _ e e2.symm)]
 obtain⟨h9,a9,p9⟩:=g9.push (bytes:=24) (SV.one om g8 (.kn 1)) (n:=i) (m:=1) om rfl om om om
 have n9:=p9.next
 have k4: ∀k,J.next<=k->cW Y k:=λk L id s m c e e2=>by have:=(N.oR.in _ _ _ _ e).1;omega
 have R: ∀k,k<J.next->cW vO k->cW Y k->h9.get k=J.get k:=λk h1 l h3=>by rw[p9.old k om h3,o8 k om,a3 k h1 l]
 have j3:h9.get (B+1)=some (.cells false [aC n,vO,Y]):=by rw[R _ f9 N.pO N.pR];exact N.get
 have l1:(f:H)->(x:V)->dY (some (.cells false [aC n,vO,Y])) f (B+1) 1 [x]=some (f.set (B+1) (some (.cells false [aC n,x,Y]))):=λf x=>bE siM f _ x
 have j8:(f:H)->(x y:V)->dY (some (.cells false [aC n,x,Y])) f (B+1) 2 [y]=some (f.set (B+1) (some (.cells false [aC n,x,y]))):=λf x y=>bE siM f _ y
 refine jX a9 j3 l1 j8 ?_
 rw[fJ i]
 obtain⟨ha,hb⟩:h6.next=J.next+14/\h8.next=J.next+15:=⟨n6,om⟩
 rw[ha,hb]
 obtain⟨a5,a2⟩: ∃a5,a5=(h9.set (B+1) (some (.cells false [aC n,.sl (J.next+14) 0 (i+1) (.un 1),Y]))).set (B+1) (some (.cells false [aC n,.sl (J.next+14) 0 (i+1) (.un 1),.sl (J.next+15) 0 (i+1) (.un 1)])):=⟨_,rfl⟩
 rw[<-a2]
 have c3: ∀k,k≠B+1->a5.get k=h9.get k:=λk L=>by rw[a2,H.Cj _ L,H.Cj _ L]
 have l5:a5.next=J.next+16:=by rw[a2];show h9.next=_;omega
 have j5:=N.step (v4:=F) (v5:=t) (o:=q) (r:=r) (h6:=a5) (a:=J.next+14) (b:=J.next+15) (k1:=i+1) (k2:=i+1) f7 pl om om om om om om om (by rw[a2,H.aJ])
  (by rw[c3 _ om,p9.old _ om (k4 _ om),o8 _ om,<-ha];exact p7.get) (by rw[c3 _ om,<-hb];exact p9.get) (λk h1 l h3 h4=>by rw[c3 k l];exact R k h1 h3 h4)
 refine⟨n-(i+1),om,i+1,_,_,_,_,_,_,_,aD rfl,om,j5,?_,by rw[eE,lO];rfl,by rw[eE,lR];rfl,λj Z=>?_,rfl⟩
 .rw[R B (N.wb B N.d) N.qO N.qR];exact j0
 .by_cases e:j=i
  .subst e
   have e1:(O++ [q]).getD j []=q:=by rw[<-lO];exact jS
   have e2:(R'++ [r]).getD j []=r:=by rw[<-lR];exact jS
   rw[e1,e2]
   exact l0
  .rw[lP om,lP om]
   exact hC j om
set_option maxHeartbeats 32000000
def T3:LN:= [[1,2,0], [1,0,2]]
theorem Lq:fW (fG 3 (· ∈T3)) L3:=abT.amU (ws:= [[], [0,1], [1], [0], [0,0], [1,0]]) (by decide+kernel)
theorem UW: ∀g∈T3,bJ 3 g:=λg a=>XG ((show ∀g∈T3,Wm 3 g=true by decide+kernel) g a)
theorem aaS {G:List Nat->Prop}{L:LN}(E:fW G L){A:LN}(nd:A.Nodup)(h: ∀x∈A,G x):A.length<=L.length:=List.Nodup.length_le_of_subset nd λx a=>(E.mem x).2 (h x a)
theorem Yz (h:H):Ev T 27 [] h (λv h'=> ∃O R,GC (λid=>id<h.next) h' v 3 O R (fG 3 (· ∈T3))/\Fr h h'):=by
 refine mV ?_;obtain⟨B,G⟩:=exI h.next;obtain⟨o,e1,F,g1,o1,f1⟩:=iI G [aC 0,.aH,.aH];obtain⟨j,e2,J,Q,f2⟩:=mkI F [1,2,0];obtain⟨h3,e3,m,s3,z⟩:=mkI J [1,0,2];obtain⟨n,e4,n4,g4,o4,y⟩:=iI m [.sl (B+1) 0 3 (.kn 3),.sl (B+1+1) 0 3 (.kn 3)];have i:=(f2.trans z).trans y;have k:SP n (.sl (B+1+1+1) 0 2 (.kn 2)) T3:=SP.two (a:= [1,2,0]) (b:= [1,0,2]) (h:=h3) (Q.mono z) s3 om y g4 _;simp(disch:=omega)only[go_sem,aV,G,e1,F,Ta,e2,J,e3,m,agY _ (pG ..) (pG ..),e4];refine (Py 10 3 _ T3 n om om UW deC (λA nd Z=>kQ (aaS Lq nd Z) deC) k).mono ?_;rintro P d ⟨A,N,lA,U,s⟩;refine aT ?_;refine (Ma P 3 _ A d om om (fG.kT UW) N om U).mono ?_;rintro vc f ⟨O,R,cw,l,x⟩
 have t:GC (λid=>id<d.next) f vc 3 O R (fG 3 (· ∈T3)):=⟨cw,l,fG.kT UW,om,om⟩
 obtain⟨u,w,rfl,a,b,_,_⟩:=t.sl;have c:=(i.trans s).trans x;have n5:=(i.trans s).next
 have n6:=x.next;have K:f.get B=cE [aC 0,.aH,.aH]:=by rw[c.get B om];exact g1
 obtain⟨W,L,n7,Y,r⟩:=xN f B [aC (3:Nat),u,w];refine nW (lY f B 0 (v:= aC (3:Nat)) (u:=u) (w:=w) rfl a b) K @jE L (bU Y) ?_;exact⟨O,R,t.go (⟨om,λid o j=>r id (by show id≠B;have: ¬id<d.next:=j;omega)⟩:Fx (λid=>id<d.next) f W) (λid o j=>by show id<d.next;omega),⟨om,λq hq=>by rw[r q om,c.get q om,o1 q om]⟩⟩
theorem alA (F:V)(l:List Int)(h:H)(hv:SI h F l)(hl:l.length<9223372036854775808):
  Ev T 11 [F] h (λv h'=> ∃(n:Nat) (S:LN) (O:LN) (R:nZ),1<=n/\n<=5/\(∀g∈S,bJ n g)/\GC (λid=>id<h.next) h' v n O R (fG n (· ∈S))/\Fr h h'):=by
 obtain⟨B,hB⟩:=exI h.next
 obtain⟨K,e1,n1,g1,o1,f1⟩:=iI hB [aC 0,.aH,.aH]
 refine Hv hB e1 ?_
 refine (AB F l 5 K (hv.mono f1) hl om om).mono ?_
 rintro _ r ⟨n,i,S,rfl,t,d,a0,y,sg,J⟩
 obtain⟨Q,hQ⟩:=exI r.next
 obtain⟨Y,e3,n3,g3,o3,f3⟩:=iI hQ [aC 0,.aH]
 obtain⟨z,e4,n4,U,o4⟩:=xN Y Q [aC n,i]
 have wg:i.one=true/\dS i i=true:=by have⟨ws,s,_⟩:=sg;exact⟨s.cT.2.1,s.dS⟩
 have j:Fr r z:=⟨om,λq hq=>by rw[o4 q om,o3 q om]⟩
 have n2:=J.next
 have cg: ∀L,Fr z L->L.get Q=cE [aC n,i]:=λL f=>by rw[f.get Q om];exact U
 simp(disch:=omega)only[go_sem,hQ,e3,nU Y Q 0 (v:= aC n) (u:=i) rfl wg.1,g3,Ea,e4,H.cell_of U]
 have Z:=(Fr.refl z).cU (n:=z.next+9) om
 refine (Py 200 n i S _ t d y om (λA nd hA=>kQ (uX d nd λx hx=>(hA x hx).cF y) deC) (sg.mono (j.trans Z))).mono ?_
 rintro vA k ⟨A,EA,lA,sA,f5⟩
 have c:=Z.trans f5
 simp(disch:=omega)only[go_sem,H.cell_of (cg k c)]
 refine (Ma vA n _ A k om om (fG.kT y) EA om sA).mono ?_
 rintro vc m ⟨O,R,cw,G,N⟩
 have W:GC (λid=>id<k.next) m vc n O R (fG n (· ∈S)):=⟨cw,G,fG.kT y,om,om⟩
 obtain⟨u,w,rfl,a,b,_,_⟩:=W.sl
 have o:=((J.trans j).trans c).trans N
 have n5:=((J.trans j).trans c).next
 have n6:=N.next
 have g6:m.get B=cE [aC 0,.aH,.aH]:=by rw[o.get B om];exact g1
 obtain⟨h7,e7,n7,g7,P⟩:=xN m B [aC n,u,w]
 simp(disch:=omega)only[go_sem,H.cell_of (cg m (c.trans N)),lY m B 0 (v:= aC n) (u:=u) (w:=w) rfl a b,g6,jE,e7,bU g7]
 exact⟨n,S,O,R,t,d,y,W.go (⟨om,λid K r=>P id (by show id≠B;have: ¬id<k.next:=r;omega)⟩:Fx (λid=>id<k.next) m h7) (λid K r=>by show id<k.next;omega),⟨om,λq hq=>by rw[P q om,o.get q om,o1 q om]⟩⟩
set_option maxHeartbeats 16000000
theorem TM (h:H){v u w:V}(b:v.cells= [v]/\v.one=true)(c:u.cells= [u]/\u.one=true)(a:w.cells= [w]/\w.one=true):lU h 1 [.aH] 3 [(0,1,v),(1,1,u),(2,1,w)]=some (.sl h.next 0 3 (.kn 3),h.new (.cells false [v,u,w])):=by
 have e:cJ [V.aH] 3= [.aH,.aH,.aH]:=rfl;simp [lU,fP,e,putAt,b.1,b.2,c.1,c.2,a.1,a.2]
set_option maxHeartbeats 32000000
theorem Qs: ∀x y:List Int,jQ x y<=0->jQ y x<=0->x=y
 | [], [],_,_=>rfl
 | [],_::_,_,h=>absurd h (by unfold jQ;decide)
 |_::_, [],h,_=>absurd h (by unfold jQ;decide)
 |a::l,b::m,h,k=>by
  unfold jQ at h k
  by_cases c:a<b
  .rw[aQ (show ¬b<a by omega),aS c] at k;exact absurd k deC
  .rw[aQ c] at h
   by_cases d:b<a
   .rw[aS d] at h;exact absurd h deC
   .rw[aQ d] at h
    rw[aQ d,aQ c] at k;rw[show a=b by omega,Qs l m h k]
theorem Wl {l m:List (List Int)}(p:l.Perm m)(c:l.Pairwise Nq)(h2:m.Pairwise Nq):l=m:=p.eq_of_pairwise (λ_ _ _ _ a b=>Qs _ _ a b) c h2
section
variable {n:Nat} {G:List Nat->Prop} {L:LN} {K:List Nat} {t:Tb} {X:Nat->List Nat->Int}
noncomputable def CO (G:List Nat->Prop)(L:LN)(K:List Nat)(t:Tb)(X:Nat->List Nat->Int)(a:Nat):List Int:=Ln.eN K.length (wK G L K t X a)
theorem Xv {N:Nat->Prop}(z:V)(O:LN)(R:nZ)(h:H)(b:GC N h z n O R G)(s:cK O R n 0 (bI n)=L)(f:vU n G L K)(C:DB n G L t K.length X):
  Ev T 16 [z] h (λv h'=> ∃u l,v= .tup [u,aC 0]/\l.Perm ((List.range K.length).map (CO G L K t X))/\l.Pairwise Nq/\SR h' u l/\Fr h h'):=by
 have o:=b
 obtain⟨i,j,rfl,Y,sR⟩:=b.ch
 have c:i.one=true:=NB Y
 have d:j.one=true:=KY sR
 have y:=b.kT
 obtain⟨E,ll⟩:=dV b.kT b.isc
 have l5:=kF b
 rw[s] at E ll
 have k0:=(sV y E f).1
 have k:=C.k12
 have p1:=vW C
 have x:=C.p100
 have hp:fD (t.p:Int)=true:=by
  unfold fD;rw[C.pr,cV (show (t.p:Int)<10000 by omega)];rfl
 have CW:=chW y E f C
 obtain⟨B,F⟩:=exI h.next
 obtain⟨h1,e1,n1,g1,o1,a⟩:=iI F [aC n,i,j]
 have P:=dH h (v:= aC n) (u:=i) (w:=j) rfl c d
 refine Nk P F e1 (bU g1) ?_
 refine (Wu _ n O R G h1 (o.mono a) L s K f om t X C C.e120).mono ?_
 rintro _ Q ⟨D,M,rfl,m,hD,hM,dx⟩
 refine aT ?_
 refine bV (λhc=>(hc rfl).elim) (λ_=>?_)
 refine aT ?_
 refine (Kj f k0 k om ⟨om,om⟩ hp CW D M Q dx).mono ?_
 rintro U h3 ⟨J,r,W,sc,a0,A⟩
 refine aT ?_
 rw[Cx,List.filter_eq_self.2 λ_ _=>rfl] at r
 exact⟨U,J,rfl,r,W,sc,⟨by have:=a.next;have:=m.next;have:=A.next;omega,λq Z=>by
  rw[A.get q (by have:=a.next;have:=m.next;omega) (by show q≠M;have:=a.next;omega),m.get q (by have:=a.next;omega),a.get q Z]⟩⟩
end
theorem afT (v:V)(u:V)(l m:List (List Int))(h:H)(sv:SR h v l)(b:SR h u m)(c:l.length<1000000)(a:m.length<1000000)(rl: ∀i,i<l.length->(l.getD i []).length<1000000)(d: ∀i,i<m.length->(m.getD i []).length<1000000):
  Ev T 30 [v,aC 0,u] h (λw h'=>w= .bool (decide (l=m))/\Fr h h'):=by
 refine mV ?_
 simp(disch:=omega)only[go_sem,aV,eq_self,decide_true]
 refine (Ln.Ed v u l m h sv b c a rl d).mono ?_
 rintro _ j ⟨rfl,f⟩
 refine aT ?_
 exact f
def ct3:Nat×List Nat:=(3, [21,15,7])
def lt3:rJ:=⟨[15,19], [21,15,19,7,11,5], []⟩
def Qf:Tb:=⟨7,6, [[1,1,1], [1,6,1], [2,0,6]]⟩
def X3 (a:Nat)(x:List Nat):Int:=(tv Qf a (oQ ((ct3.2.map (Nu 3)).map (msk (lt3.e 3))) (bL x (bI 3))):Nat)
theorem UJ:vU 3 (fG 3 (· ∈T3)) L3 [0,1,3]:=KOk.isK (fG.kT UW) Lq om alK
theorem alR:DB 3 (fG 3 (· ∈T3)) L3 Qf ([0,1,3]:List Nat).length X3:=by
 have b: ∀x∈lt3.e 3,bJ 3 x:=λx h=>Ij ((show ∀x∈lt3.e 3,NT 3 x=true by decide+kernel) x h)
 have f: ∀x∈L3,x∈lt3.e 3:=by decide+kernel
 have d: ∀x∈lt3.e 3,x∈L3:=by decide+kernel
 obtain⟨t,a,c⟩:=QC (rr:=lt3) (cc:=ct3) (s:=bI 3) om (fG.kT UW) Lq (bJ.one 3) (λx X=>by
  rw[qQ X,<-Lq.mem]
  exact⟨f x,d x⟩) b (by decide+kernel)
 have:t=Qf:=by
  have e:XY[ct3.1]? =some Qf:=rfl;rw[e] at a;exact (Option.some.inj a).symm
 subst this;exact c
theorem akY:(List.range ([0,1,3]:List Nat).length).map (uL L3 [0,1,3] X3)= [[1,1,1], [1,6,1], [2,0,6]]:=by decide+kernel
theorem sz3 (k:Nat):lI (fG 3 (· ∈T3)) L3 [0,1,3] k=(Xf L3 (([0,1,3]:List Nat).getD k 0)).length:=by
 unfold lI;rw[Uk Lq]
theorem wK3 (a k:Nat)(z:Int)(c:z*((tv Qf a 0:Nat):Int)%7=1)(h:0<=z/\z<7):wK (fG 3 (· ∈T3)) L3 [0,1,3] Qf X3 a k=(((Xf L3 (([0,1,3]:List Nat).getD k 0)).length:Nat):Int)*JT L3 [0,1,3] X3 a k*z%7:=by
 unfold wK;rw[sz3]
 have d:((tv Qf a 0:Nat):Int)%(Qf.p:Int)≠0:=λe=>by
  have e:((tv Qf a 0:Nat):Int)%7=0:=e;rw[Int.mul_emod,e,Int.mul_zero,Int.zero_emod] at c;cases c
 have b:=GY (p:=(Qf.p:Int)) (by decide+kernel) d;obtain⟨y,f⟩:=exI (iv (Qf.p:Int) (tv Qf a 0:Nat));rw[f] at b |-;have b:y*((tv Qf a 0:Nat):Int)%7=1:=b;have e:y%7=z:=Xk (p:=7) (s:=((tv Qf a 0:Nat):Int)) ⟨Int.emod_nonneg _ deC,Int.emod_lt_of_pos _ deC⟩ h (by rw[mul_mod (zP 7 y) rfl];exact b) c;show _*y%7=_;rw[<-e];exact mul_mod rfl (zP 7 y).symm
theorem alM:(List.range ([0,1,3]:List Nat).length).map (CO (fG 3 (· ∈T3)) L3 [0,1,3] Qf X3)= [[1,3,2], [1,4,2], [1,0,6]]:=by
 have a:=λk=>wK3 0 k 1 (by decide+kernel) om
 have b:=λk=>wK3 1 k 1 (by decide+kernel) om
 have c:=λk=>wK3 2 k 4 (by decide+kernel) om
 have e:(List.range ([0,1,3]:List Nat).length).map (CO (fG 3 (· ∈T3)) L3 [0,1,3] Qf X3)= [CO (fG 3 (· ∈T3)) L3 [0,1,3] Qf X3 0,CO (fG 3 (· ∈T3)) L3 [0,1,3] Qf X3 1,CO (fG 3 (· ∈T3)) L3 [0,1,3] Qf X3 2]:=rfl;rw[e];unfold CO;rw[Ln.fN λk _=>a k,Ln.fN λk _=>b k,Ln.fN λk _=>c k];decide+kernel
set_option maxHeartbeats 32000000
theorem TF (h:H):Ev T 9 [] h (λv h'=>v= .bool true/\Fr h h'):=by
 refine lG ?_;refine (Yz h).mono ?_;rintro vc h1 ⟨O,R,q,f1⟩;have eL:cK O R 3 0 (bI 3)=L3:=(dV q.kT q.isc).1.uniq Lq;refine aT ?_;refine (Wd vc O R h1 q eL UJ deC alR deC).mono ?_;rintro _ h2 ⟨u,l,rfl,F,so,su,f2⟩;rw[akY] at F;obtain rfl:=Wl F so (by decide+kernel);refine aT ?_;refine (Yz h2).mono ?_;rintro r h3 ⟨L,t,b,Q⟩;have j:cK L t 3 0 (bI 3)=L3:=(dV b.kT b.isc).1.uniq Lq;refine aT ?_;refine (Xv r L t h3 b j UJ alR).mono ?_;rintro _ h4 ⟨u2,l2,rfl,c,o,n,z⟩;rw[alM] at c;obtain rfl:=Wl (c.trans (show List.Perm _ [[1,0,6], [1,3,2], [1,4,2]] by decide+kernel)) o (by decide+kernel);obtain⟨B,Y⟩:=exI h4.next;obtain⟨h5,Z,J,s5,f5⟩:=mkI Y [1,1,1];obtain⟨h6,e6,N,s6,P⟩:=mkI J [1,6,1];obtain⟨h7,e7,x,s7,k⟩:=mkI N [2,0,6];obtain⟨w,e8,n8,g8,o8,i⟩:=iI x [.sl B 0 3 (.kn 3),.sl (B+1) 0 3 (.kn 3),.sl (B+1+1) 0 3 (.kn 3)];have d7:decide ((Qf.p:Int)=7)=true:=rfl
 have s8:SR w (.sl (B+1+1+1) 0 3 (.kn 3)) [[1,1,1], [1,6,1], [2,0,6]]:=⟨_,SV.all rfl om g8 _,((s5.mono P).mono k).mono i,(s6.mono k).mono i,s7.mono i,trivial⟩
 have a:=((f5.trans P).trans k).trans i;simp(disch:=omega)only[go_sem,d7,Y,Z,J,Ta,e6,N,e7,x,TM _ (pG ..) (pG ..) (pG ..),e8];refine (afT u _ _ _ w ((su.mono (Q.trans z)).mono a) s8 deC deC deC deC).mono ?_;rintro _ h9 ⟨rfl,W⟩;obtain⟨C,G⟩:=exI h9.next;obtain⟨ha,ea,K,sa,fa⟩:=mkI G [1,0,6];obtain⟨hb,eb,s,sb,y⟩:=mkI K [1,3,2];obtain⟨hc,ec,U,sc,m⟩:=mkI s [1,4,2];obtain⟨A,ed,nd,gd,od,f⟩:=iI U [.sl C 0 3 (.kn 3),.sl (C+1) 0 3 (.kn 3),.sl (C+1+1) 0 3 (.kn 3)]
 have sd:SR A (.sl (C+1+1+1) 0 3 (.kn 3)) [[1,0,6], [1,3,2], [1,4,2]]:=⟨_,SV.all rfl om gd _,((sa.mono y).mono m).mono f,(sb.mono m).mono f,sc.mono f,trivial⟩
 have d:=((fa.trans y).trans m).trans f;simp(disch:=omega)only[go_sem,eq_self,decide_true,G,ea,K,Ta,eb,s,ec,U,TM _ (pG ..) (pG ..) (pG ..),ed];refine (afT u2 _ _ _ A ((n.mono (a.trans W)).mono d) sd deC deC deC deC).mono ?_;rintro _ he ⟨rfl,fe⟩;simp(disch:=omega)only[go_sem,eq_self,decide_true];exact ((((((f1.trans f2).trans Q).trans z).trans a).trans W).trans d).trans fe
set_option maxHeartbeats 32000000
structure Tl (G:List Nat->Prop)(L:LN)(K:List Nat)(t:Tb)(X:Nat->List Nat->Int)(hh:H)(u vl vi:V)(l:List (List Int)):Prop where
 pm:l.Perm ((List.range K.length).map (uL L K X))
 so:l.Pairwise Nq
 su:SR hh u l
 sl:dD vl=some (aC (K.length:Int))/\ ∃id off,Sl vl 3 K.length id off/\ ∀k,k<K.length->id<hh.next/\hh.cell id (off+k*3+2)=some (aC (lI G L K k:Nat))
 si:SI hh vi (zi ((List.range K.length).map (sX G L K)))
section
variable {n:Nat} {G:List Nat->Prop} {L:LN} {K:List Nat} {t:Tb} {X:Nat->List Nat->Int}
theorem Tl.mono {h h':H}{u d i:V}{l:List (List Int)}(x:Tl G L K t X h u d i l)(f:Fr h h'):Tl G L K t X h' u d i l:=by
 obtain⟨j,id,b,m,c⟩:=x.sl;exact⟨x.pm,x.so,x.su.mono f,⟨j,id,b,m,λk a=>⟨by have:=(c k a).1;have:=f.next;omega,by rw[f.cell (c k a).1];exact (c k a).2⟩⟩,x.si.mono f⟩
theorem Tl.row {h:H}{u c f:V}{l:List (List Int)}(x:Tl G L K t X h u c f l){i:Nat}(hi:i<K.length):l.length=K.length/\ ∃a,a<K.length/\l.getD i []=uL L K X a:=by
 have b:=x.pm.length_eq;rw[dO,gT] at b;have:=x.pm.mem_iff.1 (bF (l:=l) (k:=i) (d:= []) om);obtain⟨a,j,e⟩:=oG.1 this;exact⟨b,a,mS.1 j,e.symm⟩
theorem NK {W0:Nat->Prop}(vc:V)(O:LN)(R:nZ)(h:H)(U:GC W0 h vc n O R G)(hL:cK O R n 0 (bI n)=L)(d:vU n G L K)(C:DB n G L t K.length X):
  Ev T 10 [vc] h (λv h'=> ∃u vl vi l,v= .tup [aC (t.p:Int),u,vl,vi,.bool true]/\Tl G L K t X h' u vl vi l/\Fr h h'):=by
 have A:=U
 obtain⟨vO,vR,rfl,sO,sR⟩:=U.ch
 refine mV ?_
 have W:vO.one=true:=NB sO
 have a6:vR.one=true:=KY sR
 have N:=U.kT
 obtain⟨E,ll⟩:=dV U.kT U.isc
 rw[hL] at E ll
 have k0:=(sV N E d).1
 have a5:=C.k12
 have a2:(eK G L L.length).length<=12:=by rw[<-d.perm.length_eq];exact a5
 have p1:=vW C
 have d3:=C.p100
 have d4:0<L.length:=(uE N E).1
 have p3:3<=t.p:=by
  have:=((C.prm t.p (dN _)).2 rfl).2.1;refine Nat.le_of_not_lt λh=>?_
  have h2:t.p*t.p<=2*2:=Nat.mul_le_mul om om;omega
 obtain⟨B,hB⟩:=exI h.next
 obtain⟨h1,e1,n1,g1,o1,f1⟩:=iI hB [aC n,vO,vR]
 have bx:=dH h (v:= aC n) (u:=vO) (w:=vR) rfl W a6
 have rB: ∀z,Fr h1 z->z.row B 0 3=some [aC n,vO,vR]:=λz f=>bU (by rw[f.get B om];exact g1)
 simp(disch:=omega)only[go_sem,aV,bx,hB,e1,rB h1 (Fr.refl _)]
 refine (Wd _ O R h1 (A.mono f1) hL d a5 C C.e120).mono ?_
 rintro _ h2 ⟨u,l,rfl,pm,so,su,f2⟩
 refine bM (rB h2 f2) ?_
 refine (Kq _ n O R G h2 (A.mono (f1.trans f2)) L hL a2).mono ?_
 rintro _ h3 ⟨vl,K2,ks,rfl,a9,s3,a3,f3⟩
 obtain rfl:=d.uniq a9
 obtain⟨o,_,c4,a7,c8,cL⟩:=Df om s3 a3
 have F3:=f2.trans f3
 refine bM (rB h3 F3) ?_
 refine (FO _ (-1) n O R G h3 (A.mono (f1.trans F3)) L om hL a2).mono ?_
 rintro _ h4 ⟨K4,vi,c9,rfl,sP,oP,f4⟩
 obtain rfl:=d.uniq c9
 have c5:SI h4 vi (zi ((List.range K.length).map (sX G L K))):=by
  have e:(rc K.length λk=>aC (Mr n G L K (-1) (K.getD k 0):Nat))=ints (zi ((List.range K.length).map (sX G L K))):=by
   rw[bW (g:=λk=>aC (sX G L K k:Nat)) λk hk=>by rw[QO N E d hk]];simp [rc,ints,zi,Function.comp_def]
  rw[e] at sP;exact sP
 obtain⟨r,J⟩:=exI K.length
 have lt:Tl G L K t X h4 u vl vi l:=⟨pm,so,su.mono (f3.trans f4),⟨o,c4,a7,c8,λk hk=>by
  obtain⟨b,rep,_,c2,_⟩:=cL k hk
  exact⟨by have:=f4.next;omega,by rw[f4.cell b];exact c2⟩⟩,c5⟩
 have F4:=F3.trans f4
 have F:=pm.length_eq
 rw[dO,gT] at F
 have lu:=lt.su.lens
 have li:=lt.si.lens
 rw[bD,dO,gT,J] at li
 rw[F,J] at lu
 rw[J] at o
 obtain⟨_,_,_,y,c3⟩:=lt.sl
 obtain⟨iu,ou,wu,j,c0,c6,a4,c1⟩:=lt.su.open
 rw[F,J] at j c0 c6 a4
 obtain⟨ii,oi,Z,d0,a0⟩:=lt.si.open
 rw[bD,dO,gT,J] at Z d0 a0
 have b0:decide ((0:Int)≠0)=false:=rfl
 have b1:decide ((t.p:Int)<3)=false:=bZ om
 have b2:decide ((10000:Int)<(t.p:Int))=false:=bZ om
 have b3:decide ((r:Int)<1)=false:=bZ om
 have b4:decide ((r:Int)≠(r:Int))=false:=bZ om
 simp(disch:=omega)only[go_sem,b0,b1,b2,o,b3,lu,li,b4,ne_eq,not_true_eq_false,decide_false]
 have dR: ∀i,i<r-> ∃a,a<r/\l.getD i []=Ln.eN r (JT L K X a):=λi hi=>by
  obtain⟨_,a,ha,e⟩:=lt.row (i:=i) om;exact⟨a,om,by rw[e];unfold uL;rw[J]⟩
 refine aP (λk' Q z=>z=h4/\ ∃i:Nat,(∃g:Nat->V,Q= [g 0,g 1,aC (t.p:Int),u,vl,vi,g 6,g 7,g 8,g 9,aC i,g 11,g 12,g 13,g 14,g 15,g 16])/\i<=r/\k'=r-i) r
  ⟨rfl,0,aD rfl,fY _,rfl⟩ ?_
 rintro k' Q z ⟨rfl,i,⟨g,rfl⟩,hi,rfl⟩
 by_cases c:(i:Int)<(r:Int)
 case neg=>
  have d1:=bZ c;refine eZ lu d1 ?_;exact⟨u,vl,vi,l,rfl,lt.mono ((Fr.refl _).cU om),(f1.trans F4).cU om⟩
 have d1:=cV c
 have m:i<r:=om
 obtain⟨a,ha,ea⟩:=dR i m
 have cu:=a4 i m
 have sr:=gH c1 (i:=i) om V.undef []
 rw[ea] at sr
 obtain⟨vr,c7⟩: ∃v,wu.getD i .undef=v:=⟨_,rfl⟩
 rw[c7] at cu sr
 have lr:=sr.lens
 rw[Ln.aW] at lr
 obtain⟨iw,ow,a1,a8,Y⟩:=sr.open
 rw[Ln.aW] at a1 a8 Y
 have ci:=a0 i m
 rw[show (zi ((List.range r).map (sX G L K))).getD i 0=((sX G L K i:Nat):Int) by simp [zi,m]] at ci
 have iq:=FT N E d (k:=i) om
 obtain⟨q,hq⟩:=exI (sX G L K i)
 rw[hq] at ci iq
 have cs:=(c3 i om).2
 have sp:=Lk N E d (k:=i) om
 obtain⟨s,hs⟩:=exI (lI G L K i)
 rw[hs] at cs sp
 have b5:decide ((q:Int)<0)=false:=bZ om
 have b6:decide ((r:Int)<=(q:Int))=false:=bZ om
 have b7:decide ((s:Int)<1)=false:=bZ om
 rw[J] at y
 simp(disch:=omega)only[go_sem,lu,d1,j.ixa,cu,lr,o,b4,ne_eq,not_true_eq_false,decide_false,Z.ixa,ci,b5,b6,y.ixa,cs,b7]
 refine aP (λk' Q h5=>h5=z/\ ∃k:Nat,(∃g:Nat->V,Q= [g 0,g 1,aC (t.p:Int),u,vl,vi,g 6,g 7,g 8,g 9,aC i,aC k,g 12,g 13,g 14,g 15,g 16])/\k<=r/\k'=r-k) r
  ⟨rfl,0,aD rfl,fY _,rfl⟩ ?_
 rintro k' Q h5 ⟨rfl,k,⟨g,rfl⟩,hk,rfl⟩
 by_cases c:(k:Int)<(r:Int)
 case neg=>
  have d2:=bZ c;refine jX @j.ixa cu lr d2 ?_;rw[fJ i];exact⟨r-(i+1),om,i+1,aD rfl,om,rfl⟩
 have d2:=cV c
 have P:k<r:=om
 have ck:=Y k P
 rw[Ln.cZ _ P] at ck
 have rg:=C.rng a _ om (Tv N E d (k:=k) om)
 rw[show X a (L.getD (K.getD k 0) [])=JT L K X a k from rfl] at rg
 obtain⟨x,hx⟩:=exI (JT L K X a k)
 rw[hx] at ck rg
 have b8:decide (x<0)=false:=bZ om
 have b9:decide ((t.p:Int)<=x)=false:=bZ om
 refine wY @j.ixa cu lr d2 @a1.ixa ck b8 b9 ?_
 rw[fJ k]
 exact⟨r-(k+1),om,k+1,aD rfl,om,rfl⟩
end
section
variable {n:Nat} {G:List Nat->Prop} {L:LN} {K:List Nat}
theorem Yf (k:Nat):(eK G L k).Nodup:=by
 unfold eK;exact List.Pairwise.filter _ List.nodup_range
theorem ajZ (n:Nat)(G:List Nat->Prop)(L:LN): ∃K,vU n G L K:=by
 classical
 refine⟨(eK G L L.length).mergeSort λr s=>decide (¬IH n G L s r),List.mergeSort_perm _ _,?_⟩
 have f:=List.pairwise_mergeSort (le:=λr s=>decide (¬IH n G L s r)) (λa b c f d=>by
  simp only[decide_eq_true_eq] at f d |-
  unfold IH at*;omega) (λa b=>by
  simp only[Bool.or_eq_true,decide_eq_true_eq]
  unfold IH;omega) (eK G L L.length)
 have d:((eK G L L.length).mergeSort λr s=>decide (¬IH n G L s r)).Nodup:=(List.mergeSort_perm _ _).nodup_iff.2 (Yf _);rw[Ow] at d;refine (f.and d).imp λ⟨h,h4⟩=>?_
 simp only[decide_eq_true_eq] at h;unfold IH at*;omega
variable (hG:oK n G) (E:fW G L)
include hG E
end
section
variable {l:List Nat} {r:Nat}
set_option maxHeartbeats 32000000
theorem anY {f:Nat->Int}{m:List Nat}(p:l.Perm m):(l.map f).sum=(m.map f).sum:=by
 induction p with
 |nil=>rfl
 |cons x _ ih=>rw[List.map_cons,List.sum_cons,List.map_cons,List.sum_cons,ih]
 |swap x y _=>simp only[List.map_cons,List.sum_cons];omega
 |trans _ _ h1 h2=>exact h1.trans h2
theorem anU (f:Nat->Int): ∀l:List Nat,sm l.length (λi=>f (l.getD i 0))=(l.map f).sum:=λl=>by
 have e:(k:Nat)->k<=l.length->sm k (λi=>f (l.getD i 0))=((l.take k).map f).sum:=λk=>by
  induction k with
  |zero=>exact λ_=>rfl
  |succ k ih=>
   intro a;rw[bQ,ih om,List.take_add_one,dJ om,List.map_append,List.sum_append,gV,dJ om];simp
 rw[e _ (dN _),List.take_length]
theorem anZ {f:Nat->Int}(p:l.Perm (List.range r)):sm r (λi=>f (l.getD i 0))=sm r f:=by
 have a:=anU f l;have b:=anU f (List.range r);rw[p.length_eq,gT] at a;rw[gT] at b;rw[a,anY p,<-b];refine aU λi hi=>?_
 simp [hi]
theorem aoJ (p:l.Perm (List.range r)){a b:Nat}(f:a<r)(d:b<r):l.getD a 0=l.getD b 0↔a=b:=by
 have c:=p.length_eq;rw[gT] at c;have nd:l.Nodup:=p.nodup_iff.2 List.nodup_range;refine⟨λe=>?_,λe=>by rw[e]⟩;rw[gV,gV,dJ om,dJ om] at e;exact (List.getElem_inj nd).1 e
theorem alV (p:l.Perm (List.range r)){a:Nat}(c:a<r):l.getD a 0<r:=by
 have b:=p.length_eq;rw[gT] at b;exact mS.1 (p.mem_iff.1 (bF om))
end
section
variable {G:List Nat->Prop} {L:List (List Nat)}
def iA (x y:List Nat):List Nat:=aZ (aZ (bY x) (bY y)) (aZ x y)
section
variable {n:Nat} {x y z g:List Nat}
theorem anM (X:bJ n x)(Y:bJ n y)(B:bJ n g):bL (iA x y) g=iA (bL x g) (bL y g):=by
 unfold iA;rw[uS (X.inv.mul Y.inv) (X.mul Y) B,uS X.inv Y.inv B,uS X Y B,Mb X B,Mb Y B]
end
def cmM (E:List (List Nat)):Nat:=HQ (λx=>HQ (λy=>2^adC (iA x y)) E) E
def anL (t:Tb)(r:Nat):Nat:=((List.range r).filter λa=>decide (tv t a 0=1)).length
def aoF (E:List (List Nat))(m:Nat)(t:Tb)(r:Nat):Bool:=decide (r<t.p)&&decide ((E.filter λx=>m.testBit (adC x)).length*anL t r=E.length)&&(E.filter λx=>m.testBit (adC x)).all λx=>(E.filter λx=>m.testBit (adC x)).all λy=>m.testBit (adC (aZ x y))
def anJ (n:Nat)(Ts:List Tb)(Rs:List rJ)(Cs:List (Nat×List Nat)):Bool:=(List.range Rs.length).all λk=>match Rs[k]?,Cs[k]? with|some r,some c=>(match Ts[c.1]? with|some t=>aoF (r.e n) (cmM (r.e n)) t c.2.length|none=>false)|_,_=>false
theorem aoG:anJ 1 XY akP amL=true:=by decide+kernel
theorem aoH:anJ 2 XY alY anB=true:=by decide+kernel
theorem aoA:anJ 3 XY alC anC=true:=by decide+kernel
theorem aoL:anJ 4 XY amC anA=true:=by decide+kernel
theorem aoE:anJ 5 XY aoC amI=true:=by decide+kernel
structure ChD (G:List Nat->Prop)(L:List (List Nat))(t:Tb)(r:Nat):Prop where
 rp:r<t.p
 cl: ∀a b c d,G a->G b->G c->G d-> ∃e f,G e/\G f/\aZ (iA a b) (iA c d)=iA e f
 sz: ∀A,fW (λx=> ∃a b,G a/\G b/\x=iA a b) A->A.length*anL t r=L.length
theorem aoM {n:Nat}{E:List (List Nat)}{s:List Nat}{t:Tb}{r:Nat}(n6:n<=6)(k:oK n G)(F:fW G L)(S:bJ n s)(Q: ∀x,bJ n x->(G x↔bL x s∈E))(v: ∀x∈E,bJ n x)(R:(E.map adC).Nodup)(h:aoF E (cmM E) t r=true):ChD G L t r:=by
 unfold aoF at h
 obtain⟨m,hm⟩: ∃m,cmM E=m:=⟨_,rfl⟩
 rw[hm] at h;simp only[oW,xF,uR,Gh] at h;have⟨⟨c1,c2⟩,c3⟩:=h;have B:E.Nodup:=List.Pairwise.imp (λh e=>h (congrArg adC e)) (List.pairwise_map.1 (Ow.1 R))|>Ow.2
 have back: ∀x,bJ n x->bL (bL x (bY s)) s=x:=λx X=>by
  have:=iM X S.inv;rwa [inv_inv S] at this
 have mv: ∀x,Ms n G s x↔x∈E:=λx=>⟨λh=>by
  have:=(Q _ (iN h.1 S.inv)).1 h.2
  rwa [back x h.1] at this,λh=>⟨v x h,(Q _ (iN (v x h) S.inv)).2 (by rw[back x (v x h)];exact h)⟩⟩
 have w:oK n (· ∈E):=by
  have:Ms n G s=(· ∈E):=funext λx=>propext (mv x)
  rw[<-this];exact Ms.kT k S
 have o: ∀x,G x->bL x s∈E:=λx l=>(Q x (k.cF l)).1 l
 have W: ∀x y,x∈E->y∈E->iA x y∈E:=λx y l q=>w.mul (w.mul (w.inv l) (w.inv q)) (w.mul l q)
 have bit: ∀z,z∈E->(m.testBit (adC z)=true↔ ∃a b,G a/\G b/\z=bL (iA a b) s):=λz hz=>by
  rw[<-hm,cmM,sZ];constructor
  .rintro⟨x,l,h⟩
   rw[sZ] at h;have⟨y,q,h⟩:=h;have e:=ajX n6 (v z hz) (v _ (W x y l q)) h;have X:=(mv x).2 l;have Y:=(mv y).2 q;refine⟨_,_,X.2,Y.2,?_⟩;rw[anM (k.cF X.2) (k.cF Y.2) S,back x X.1,back y Y.1,e]
  .rintro⟨a,b,j,i,rfl⟩
   refine⟨_,o a j,sZ.2 ⟨_,o b i,?_⟩⟩;rw[anM (k.cF j) (k.cF i) S,Nat.testBit_two_pow];exact decide_eq_true rfl
 have u: ∀a b,G a->G b->G (iA a b):=λa b j i=>k.mul (k.mul (k.inv j) (k.inv i)) (k.mul j i)
 refine⟨c1,λa b c d j i Z K=>?_,λA J=>?_⟩
 .have U:=o _ (u a b j i)
  have P:=o _ (u c d Z K);have:=c3 _ ⟨U,(bit _ U).2 ⟨a,b,j,i,rfl⟩⟩ _ ⟨P,(bit _ P).2 ⟨c,d,Z,K,rfl⟩⟩;obtain⟨e,f,h1,h2,h3⟩:=(bit _ (w.mul U P)).1 this;have P1:=k.cF (u a b j i);have P2:=k.cF (u c d Z K);rw[<-uS P1 P2 S] at h3;exact⟨e,f,h1,h2,Gs (P1.mul P2) (k.cF (u e f h1 h2)) S h3⟩
 .have aG: ∀x∈A,G x:=λx l=>by
   obtain⟨a,b,j,i,rfl⟩:=(J.mem x).1 l;exact u a b j i
  have O:(A.map λx=>bL x s).Nodup:=by
   rw[Ow,List.pairwise_map];exact (Ow.1 J.nodup).imp_of_mem λ{a b} j i ne e=>ne (Gs (k.cF (aG a j)) (k.cF (aG b i)) S e)
  have pm:(A.map λx=>bL x s).Perm (E.filter λx=>m.testBit (adC x)):=by
   refine (List.perm_ext_iff_of_nodup O (B.filter _)).2 λx=>?_
   rw[oG,Gh];constructor
   .rintro⟨y,q,rfl⟩
    obtain⟨a,b,j,i,rfl⟩:=(J.mem y).1 q;have:=o _ (u a b j i);exact⟨this,(bit _ this).2 ⟨a,b,j,i,rfl⟩⟩
   .rintro⟨l,hbt⟩
    obtain⟨a,b,j,i,rfl⟩:=(bit x l).1 hbt;exact⟨_,(J.mem _).2 ⟨a,b,j,i,rfl⟩,rfl⟩
  have pl:(L.map λx=>bL x s).Perm E:=by
   have N:(L.map λx=>bL x s).Nodup:=by
    rw[Ow,List.pairwise_map];exact (Ow.1 F.nodup).imp_of_mem λ{a b} j i ne e=>ne (Gs (k.cF ((F.mem a).1 j)) (k.cF ((F.mem b).1 i)) S e)
   refine (List.perm_ext_iff_of_nodup N B).2 λx=>?_
   rw[oG];exact⟨λ⟨y,q,e⟩=>by rw[<-e];exact o y ((F.mem y).1 q),λl=>⟨bL x (bY s),(F.mem _).2 ((mv x).2 l).2,back x (v x l)⟩⟩
  have l1:=pm.length_eq;have l2:=pl.length_eq;rw[dO] at l1 l2;rw[l1,l2];exact c2
theorem anH {n:Nat}{a:List rJ}{A:List (Nat×List Nat)}(l:n<=6)(chk:DV n (lQ n (List.range n)) a=true)(K:a.length≠0)(J: ∀r,a[0]? =some r->r.gens= [])(q:AX n XY a A=true)(j:anJ n XY a A=true)(b:oK n G)(E:fW G L): ∃t r X,DB n G L t r X/\ChD G L t r:=by
 have v:=abE chk
 obtain⟨k,s,d,S,m,B⟩:=Vx (V:=bJ n) (U:=lQ n (List.range n)) l (λx X=>⟨X,MO X⟩) (λx s X S=>iN X S) v a.length 0 G om om b (λx F=>b.cF F) (λg m=>by
  rw[rJ.g,J _ (dJ om)] at m
  cases m)
 have c:=v k d;unfold QD at c;simp only[oW,uR] at c;have u: ∀x∈a[k].e n,bJ n x:=HV (λx X g h=>X.mul (Ij (c.1.1.2 g h))) (bJ.one n) c.1.1.1;unfold AX at q;rw[oW,uR,xF] at q;unfold anJ at j;rw[uR] at j;have f:=q.2 k (mS.2 d);have i:=j k (mS.2 d);rw[dJ d,dJ om] at f i;obtain⟨t,w,C⟩:=QC l b E S B u f;simp only[w] at i
 have o:((a[k].e n).map adC).Nodup:=by
  simp only[aiT,w,oW,xF] at f;exact f.1.1
 exact⟨t,_,_,C,aoM l b E S B u o i⟩
theorem anQ {n:Nat}(b:1<=n)(c:n<=5)(a:oK n G)(E:fW G L): ∃t r X,DB n G L t r X/\ChD G L t r:=by
 obtain rfl|rfl|rfl|rfl|rfl:n=1\/n=2\/n=3\/n=4\/n=5:=om
 .exact anH om acU deC deC ahA aoG a E
 .exact anH om acH deC deC akJ aoH a E
 .exact anH om aaK deC deC agX aoA a E
 .exact anH om afF deC deC ajB aoL a E
 .exact anH om aaB deC deC ahR aoE a E
end
set_option maxHeartbeats 32000000
theorem anR (q m:V)(a b:List Int)(h:H)(G:SI h q a)(K:SI h m b)(J:a.length=b.length)(la:a.length<1000000):
  Ev T 19 [q,m] h (λv h'=>v= .bool (decide (jQ a b<0))/\Fr h h'):=by
 obtain⟨W,U,B,L,O⟩:=G.open
 obtain⟨Q,R,l,F,z⟩:=K.open
 have r:=G.lens
 have s:=K.lens
 rw[<-J] at l F z s
 refine lG ?_
 refine aP (λw t A=> ∃i:Nat,(∃g:Nat->V,t= [q,m,g 2,aC i,g 4,g 5])/\i<=a.length/\jQ a b=jQ (a.drop i) (b.drop i)/\Fr h A/\w=a.length-i) a.length
  ⟨0,aD rfl,fY _,rfl,Fr.refl h,rfl⟩ ?_
 rintro w t A ⟨i,⟨g,rfl⟩,hi,e,f,rfl⟩
 by_cases j:(i:Int)<(a.length:Int)
 case neg=>
  have k:=bZ j;obtain rfl:i=a.length:=om
  have e0:jQ a b=0:=by
   rw[e,List.drop_length,J,List.drop_length];rfl
  refine eZ r k ?_;exact⟨by rw[e0];rfl,f.cU om⟩
 have k:=cV j
 have d:i<a.length:=om
 have n:=O i d
 rw[<-f.cell (L om)] at n
 have o:=z i d
 rw[<-f.cell (F om)] at o
 rw[OP d om] at e
 by_cases c:a.getD i 0=b.getD i 0
 .have d2:decide (a.getD i 0≠b.getD i 0)=false:=bZ λh=>h c
  rw[aQ (by rw[c];unfold Cls.nG;simp)] at e
  refine wY r s k @B.ixa @l.ixa n o d2 ?_
  rw[fJ i]
  exact⟨a.length-(i+1),om,i+1,aD rfl,om,e,f.cU om,rfl⟩
 .have d2:=cV c
  have P:decide (a.getD i 0<b.getD i 0)=decide (jQ a b<0):=by
   refine decide_eq_decide.2 ?_;rw[e];unfold Cls.nG;generalize a.getD i 0=x at*;generalize b.getD i 0=y at*
   by_cases u:x<y
   .simp [u]
   .have N:y<x:=om
    simp [u,N]
  refine Ux r s k @B.ixa @l.ixa n o d2 P ?_
  exact f.cU om
structure Gl (h0 h:H)(u:V)(ws:List V)(l:LN):Prop where
 ow:dF h u 1 ws h0.next
 el:bH (λv x=>SI h v (zi x)/\vI (fF u) v) ws l
 fr:Fr h0 h
theorem Gl.app {k h a:H}{u y v:V}{ws:List V}{l:LN}{x:List Nat}(g:Gl k h u ws l)(f:Fr h a)(s:SI a v (zi x))(o:vI (fF u) v)(r:SV a y 1 [v])(z:ws.length<1000000):
  ∃h2,tW a 1 24 u y=some (.sl a.next 0 (ws.length+1) (.un 1),h2)/\Gl k h2 (.sl a.next 0 (ws.length+1) (.un 1)) (ws++ [v]) (l++ [x]):=by
 have G:=f.next
 have B:=g.fr.next
 obtain⟨h2,w,i⟩:=(g.ow.fr f).push (bytes:=24) r (n:=ws.length) (m:=1) om rfl om om om
 have F:=i.next
 have fx:Fx (fF u) a h2:=⟨om,λq A t=>i.old q om λid j n c e e2=>t ⟨j,n,c,by rw[e2];exact e⟩⟩
 have d:(v:V)->(x:List Int)->SI a v x->vI (fF (.sl a.next 0 (ws.length+1) (.un 1))) v:=λv x s=>by
  cases v with
  |sl b c' d' e'=>
   have:=SV.in s b c' d' e' rfl;rintro⟨o',n',c'',e⟩;cases e;omega
  |_=>trivial
 have el:bH (λv x=>SI h2 v (zi x)/\vI (fF (.sl a.next 0 (ws.length+1) (.un 1))) v) (ws++ [v]) (l++ [x]):=bH.append (g.el.mono λ(v:V) (x:List Nat) (q:SI h v (zi x)/\vI (fF u) v)=>And.intro ((q.1.mono f).fx q.2 fx) (d v _ (q.1.mono f))) ⟨And.intro (s.fx o fx) (d v _ s),trivial⟩
 exact⟨h2,w,i.own om rfl om,el,xQ.frb i (g.fr.trans f) (g.ow.fr f)⟩
set_option maxHeartbeats 32000000
section
variable {n:Nat} {G:List Nat->Prop} {L:LN} {K:List Nat} {t:Tb} {X:Nat->List Nat->Int}
theorem YX {W0:Nat->Prop}(vc:V)(O:LN)(R:nZ)(h:H)(c:GC W0 h vc n O R G)(W:cK O R n 0 (bI n)=L)(A:vU n G L K)(C:DB n G L t K.length X)(rp:K.length<t.p)(i:Nat)(hi:i<K.length)(x:Int):
  Ev T 20 [vc,aC i,aC x] h (λv h'=> ∃u,v= .tup [u,aC 0]/\dD u=some (aC ((xU K.length (λa=>decide ((wK G L K t X a i-x)%t.p=0)):Nat):Int))/\Fr h h'):=by
 have Q:=c
 obtain⟨y,F,rfl,sO,sR⟩:=c.ch
 have d:y.one=true:=NB sO
 have f:F.one=true:=KY sR
 have hG:=c.kT
 obtain⟨E,ll⟩:=dV c.kT c.isc
 have l5:=kF c
 rw[W] at E ll
 have P:=C.k12
 have p1:=vW C
 have Y:=C.p100
 have hp:fD (t.p:Int)=true:=by
  unfold fD;rw[C.pr,cV (show (t.p:Int)<10000 by omega)];rfl
 have CW:=chW hG E A C
 obtain⟨B,hB⟩:=exI h.next
 obtain⟨h1,e1,n1,g1,o1,b⟩:=iI hB [aC n,y,F]
 have bx:=dH h (v:= aC n) (u:=y) (w:=F) rfl d f
 refine Nk bx hB e1 (bU g1) ?_
 refine (Wu _ n O R G h1 (Q.mono b) L W K A om t X C C.e120).mono ?_
 rintro _ s ⟨D,M,rfl,m,hD,hM,r⟩
 refine aT ?_
 refine bV (λhc=>(hc rfl).elim) (λ_=>?_)
 have r:=r.go (W':=λ_=>False) (Fx.of (Fr.refl s)) λ_ _ h=>h.elim
 obtain⟨a0,a1,vL,vP,O2,R2,z,_,_,⟨lv,_⟩,_⟩:=r.ex
 have c3:s.cell D 3=some vL:=by rw[H.cell_of z];rfl
 have d1:decide ((i:Int)<0)=false:=bZ om
 have d2:decide ((K.length:Int)<=(i:Int))=false:=bZ om
 refine jX d1 c3 lv d2 ?_
 refine (ON n G L K A P om t ⟨om,om⟩ s D M i hi r λ_ h=>h.elim).mono ?_
 rintro _ h3 ⟨u,rfl,uc,u1,su,a2,U⟩
 have l:(Nj G L K t i).length=K.length:=Ln.dC ..
 have J: ∀k,k<(Nj G L K t i).length->((Nj G L K t i).getD k []).length=K.length:=λk o=>by
  rw[l] at o;unfold Nj;rw[Ln.jT _ o,Ln.aW]
 have N: ∀k j,k<K.length->j<K.length->Ln.kH (Nj G L K t i) k j=((mW G L K i j k:Nat):Int)%t.p:=λk j o hj=>by
  rw[aaH G L K t i o hj];exact Int.natCast_emod ..
 refine aT ?_
 refine (ahM CW hp om om hi l J N x u h3 su.sr).mono ?_
 rintro _ h4 ⟨vu,q,rfl,sp,sr,Z⟩
 refine aT ?_
 refine⟨vu,rfl,?_,⟨by have:=b.next;have:=m.next;have:=U.next;have:=Z.next;omega,λq hq=>by
  rw[Z.get q (by have:=b.next;have:=m.next;have:=U.next;omega),U.get q (by have:=b.next;have:=m.next;omega) (by show q≠M;have:=b.next;omega),m.get q (by have:=b.next;omega),b.get q hq]⟩⟩
 rw[<-sp.dim om]
 exact sr.sr.lens
end
theorem anG {r p:Nat}{w:Nat->Nat->Int}{i:Nat}(h: ∀a,a<r->0<=w a i/\w a i<p):sm p (λx=>sm r λa=>if w a i=(x:Int) then (1:Int) else 0)=r:=by
 rw[mI]
 have e: ∀a,a<r->sm p (λx=>if w a i=(x:Int) then (1:Int) else 0)=1:=λa d=>by
  have:=h a d;rw[iP (t:=(w a i).toNat) om λk f c=>by rw[aQ om],aS om]
 rw[aU e]
 have b: ∀m:Nat,sm m (λ_=>(1:Int))=m:=λm=>by
  induction m with
  |zero=>rfl
  |succ m ih=>rw[bQ,ih];omega
 exact b r
theorem alX {r p:Nat}{w:Nat->Nat->Int}{i:Nat}(h: ∀a,a<r->0<=w a i/\w a i<p){x:Nat}(d:x<p):((xU r (λa=>decide ((w a i-(x:Int))%p=0)):Nat):Int)=sm r λa=>if w a i=(x:Int) then (1:Int) else 0:=by
 rw[<-AS];refine aU λa b=>?_
 have:=h a b;simp only[xF]
 by_cases e:w a i=(x:Int)
 .rw[aS e,aS (by rw[e,Int.sub_self,Int.zero_emod])]
 .rw[aQ e,aQ λc=>e ?_]
  have:=Int.emod_eq_emod_iff_emod_sub_eq_zero.2 c;rwa [Int.emod_eq_of_lt om om,Int.emod_eq_of_lt om om] at this
set_option maxHeartbeats 32000000
section
variable {n:Nat} {G:List Nat->Prop} {L:LN} {K:List Nat} {t:Tb} {X:Nat->List Nat->Int} (hG:oK n G) (E:fW G L) (ik:vU n G L K) (C:DB n G L t K.length X)
include hG E ik C
theorem alS {a b:Nat}(m:a<K.length)(c:b<K.length)(ne:a≠b)(h:Ln.eN K.length (wK G L K t X a)=Ln.eN K.length (wK G L K t X b)):False:=by
 have W:=chW hG E ik C;have i:=W.d1 a b m c;have d:=W.d1 b b c c;rw[aQ ne] at i
 rw[aS rfl,<-aU (f:=λk=>wK G L K t X a k*coK G L K t X k b) λk j=>by
  have:=congrArg (λl=>l.getD k 0) h;simp only[Ln.cZ _ j] at this
  simp only[this],i] at d
 cases d
theorem anK {a k:Nat}(b:a<K.length):(JT L K X a 0*wK G L K t X a k-((lI G L K k:Nat):Int)%t.p*JT L K X a k)%t.p=0:=by
 refine Int.emod_eq_emod_iff_emod_sub_eq_zero.1 ?_;rw[acR hG E ik C b];unfold wK;rw[mul_mod rfl (Int.emod_emod_of_dvd _ (Int.dvd_refl _)),mul_mod (Int.emod_emod_of_dvd _ (Int.dvd_refl _)) rfl,show ((tv t a 0:Nat):Int)*(((lI G L K k:Nat):Int)*JT L K X a k*iv t.p (tv t a 0:Nat))=iv t.p (tv t a 0:Nat)*((tv t a 0:Nat):Int)*(((lI G L K k:Nat):Int)*JT L K X a k) by grind];exact cmod C (JO C b)
end
theorem oA (w vi:V)(iz:Int)(l0:List Int)(h:H)(hs:SI h w l0)(hl:l0.length<9223372036854775808)(ei:vi= aC iz):
  Ev T 5 [w,vi] h (λv h'=>v= .bool true/\Fr h h'):=by
 subst ei
 refine lG ?_
 refine (TF h).mono ?_
 rintro _ h1 ⟨rfl,f1⟩
 have lw:=hs.lens
 by_cases g7:(60:Int)<(l0.length:Int)
 .have d0:=cV g7
  simp(disch:=omega)only[go_sem,eq_self,decide_true,lw,d0]
  exact f1.cU om
 have d0:=bZ g7
 simp(disch:=omega)only[go_sem,eq_self,decide_true,lw,d0]
 refine (alA w l0 h1 (hs.mono f1) hl).mono ?_
 rintro vc h2 ⟨n,S,O,R,n0,n5,hS,gc,f2⟩
 obtain⟨G,l4⟩:=exI (fG n (· ∈S))
 rw[l4] at gc
 obtain⟨vO,vR,rfl,g2,g1,_,_⟩:=gc.sl
 obtain⟨B,hB⟩:=exI h2.next
 obtain⟨h3,e3,n3,g3,o3,f3⟩:=iI hB [aC 0,.aH,.aH]
 obtain⟨h4,e4,n4,g4,o4⟩:=xN h3 B [aC n,vO,vR]
 have g5:Fr h2 h4:=⟨om,λq hq=>by rw[o4 q om,o3 q om]⟩
 have rB: ∀o,Fr h4 o->o.row B 0 3=some [aC n,vO,vR]:=λo f=>bU (by rw[f.get B om];exact g4)
 replace gc:=gc.mono g5
 have hG:=gc.kT
 obtain⟨L,hL⟩:=exI (cK O R n 0 (bI n))
 have E:=(dV gc.kT gc.isc).1
 rw[hL] at E
 obtain⟨K,ik⟩:=ajZ n G L
 obtain⟨t,r',X,C,D⟩:=anQ n0 n5 hG E
 obtain rfl:=C.num K ik
 have rp:=D.rp
 have m0:=C.k12
 have k9:(eK G L L.length).length<=12:=by rw[<-ik.perm.length_eq];exact m0
 simp(disch:=omega)only[go_sem,hB,e3,lY h3 B 0 (v:= aC n) (u:=vO) (w:=vR) rfl g2 g1,g3,jE,e4,rB h4 (Fr.refl _)]
 refine (NK _ O R h4 gc hL ik C).mono ?_
 rintro _ h5 ⟨u,vl,vi,l,rfl,lt,f5⟩
 refine bM (rB h5 f5) ?_
 refine (Xv _ O R h5 (gc.mono f5) hL ik C).mono ?_
 rintro _ h6 ⟨uw,lz,rfl,pw,m2,sw,f6⟩
 have F6:=f5.trans f6
 replace lt:=lt.mono f6
 have lW:=sw.lens
 have c8:=pw.length_eq
 rw[dO,gT] at c8
 rw[c8] at lW
 have j5:=lt.sl.1
 have b0:decide ((0:Int)≠0)=false:=rfl
 have b1:decide ((K.length:Int)≠(K.length:Int))=false:=bZ λh=>h rfl
 have r0:0<K.length:=(sV hG E ik).1
 refine jX j5 b0 lW b1 ?_
 refine (aeM iz (K.length:Int) h6 om om).mono ?_
 rintro _ _ ⟨rfl,rfl⟩
 obtain⟨ci,j3⟩: ∃c:Nat,iz%(K.length:Int)=(c:Int):=⟨(iz%(K.length:Int)).toNat,by have:=Int.emod_nonneg iz (show (K.length:Int)≠0 by omega);omega⟩
 have a6:ci<K.length:=by have:=Int.emod_lt_of_pos iz (show 0<(K.length:Int) by omega);omega
 rw[j3]
 simp(disch:=omega)only[go_sem,rB _ F6]
 refine (UQ _ (ci:Int) n O R G _ (gc.mono F6) L hL k9).mono ?_
 rintro _ W ⟨K2,c0,f7,⟨m5,_⟩|⟨_,⟨hz,_⟩|⟨i2,um,ei,_,rfl,d7⟩⟩⟩
 .obtain rfl:=ik.uniq c0;omega
 .obtain rfl:=ik.uniq c0;omega
 obtain rfl:=ik.uniq c0
 obtain rfl:ci=i2:=om
 have F7:=F6.trans f7
 replace lt:=lt.mono f7
 replace sw:=sw.mono f7
 have lM:=d7.lens
 rw[show (TE G L K ci).length=K.length by simp [TE]] at lM
 refine iG b0 lM b1 ?_
 have k4:Fr h W:=(f1.trans (f2.trans g5)).trans F7
 have p1:=vW C
 have m3:(t.p:Int)<100:=by have:=C.p100;omega
 have l5:L.length<=5040:=by
  have E2:=(dV gc.kT gc.isc).2;rw[hL] at E2;have:=kF gc;omega
 have CW:=chW hG E ik C
 obtain⟨ao,pa,ea⟩:=Hf lt.pm _ rfl
 obtain⟨bo,pb,eb⟩:=Hf pw _ rfl
 have la:=pa.length_eq
 have lb:=pb.length_eq
 rw[gT] at la lb
 have ll:l.length=K.length:=by rw[ea,dO,la]
 obtain⟨iu,ou,wu,g6,d6,k3,i1,k1⟩:=lt.su.open
 obtain⟨iw,ow,ww,a0,d4,j0,d8,k0⟩:=sw.open
 obtain⟨im,oM,wm,c9,g9,j6,e9,k8⟩:=d7.open
 obtain⟨_,j2,i3,l1,f8⟩:=lt.sl
 have e8:(TE G L K ci).length=K.length:=by simp [TE]
 rw[ll] at g6 d6 k3 i1
 rw[c8] at a0 d4 j0 d8
 rw[e8] at c9 g9 j6 e9
 have ax: ∀i,i<K.length->ao.getD i 0<K.length:=λi hi=>alV pa hi
 have bx: ∀i,i<K.length->bo.getD i 0<K.length:=λi hi=>alV pb hi
 have i5: ∀c,c<K.length-> ∃i,i<K.length/\ao.getD i 0=c:=λc hc=>by
  obtain⟨i,hi,e⟩:=List.getElem_of_mem (pa.mem_iff.2 (mS.2 hc));exact⟨i,om,by rw[gV,dJ hi];exact e⟩
 have ru: ∀i,i<K.length-> ∃id Q,Sl (wu.getD i .undef) 1 K.length id Q/\id<W.next/\ ∀k,k<K.length->W.cell id (Q+k)=some (aC (JT L K X (ao.getD i 0) k)):=λi hi=>by
  have sr:=gH k1 (i:=i) om V.undef []
  rw[ea,show (ao.map (uL L K X)).getD i []=Ln.eN K.length (JT L K X (ao.getD i 0)) by
   rw[gV,Al,gV,dJ om];rfl] at sr
  obtain⟨id,Q,a1,a2,a3⟩:=sr.open;rw[Ln.aW] at a1 a2 a3;exact⟨id,Q,a1,a2 r0,λk U=>by rw[a3 k U,Ln.cZ _ U]⟩
 have b7: ∀i,i<K.length->SI W (ww.getD i .undef) (Ln.eN K.length (wK G L K t X (bo.getD i 0))):=λi hi=>by
  have sr:=gH k0 (i:=i) om V.undef []
  rwa [eb,show (bo.map (CO G L K t X)).getD i []=Ln.eN K.length (wK G L K t X (bo.getD i 0)) by
   rw[gV,Al,gV,dJ om];rfl] at sr
 have f4: ∀i,i<K.length-> ∃id Q,Sl (ww.getD i .undef) 1 K.length id Q/\dD (ww.getD i .undef)=some (aC (K.length:Int))/\id<W.next/\ ∀k,k<K.length->W.cell id (Q+k)=some (aC (wK G L K t X (bo.getD i 0) k)):=λi hi=>by
  have lz:=(b7 i hi).lens;obtain⟨id,Q,a1,a2,a3⟩:=(b7 i hi).open;rw[Ln.aW] at a1 a2 a3 lz;exact⟨id,Q,a1,lz,a2 r0,λk U=>by rw[a3 k U,Ln.cZ _ U]⟩
 have rm: ∀j,j<K.length-> ∃id Q,Sl (wm.getD j .undef) 1 K.length id Q/\dD (wm.getD j .undef)=some (aC (K.length:Int))/\id<W.next/\ ∀k,k<K.length->W.cell id (Q+k)=some (aC (mW G L K ci j k:Nat)):=λj hj=>by
  have rj:=Mz k8 (i:=j) (by rw[e8];exact hj)
  rw[show (TE G L K ci).getD j []=zi ((List.range K.length).map (mW G L K ci j)) by
   unfold TE
   rw[gV,Al,List.getElem?_range hj];rfl] at rj
  have lz:=rj.lens;obtain⟨id,Q,a1,a2,a3⟩:=rj.open;rw[bD,dO,gT] at a1 a2 a3 lz;exact⟨id,Q,a1,lz,a2 r0,λk U=>by rw[a3 k U];simp [zi,U]⟩
 have cp: ∀a k,a<K.length->k<K.length->0<=JT L K X a k/\JT L K X a k<t.p:=λa k ha U=>C.rng a _ ha (Tv hG E ik U)
 have wp:=CW.rng
 have w1:=CW.one
 have c7:=CW.mul
 have fit:=λ{a k:Nat}=>anK hG E ik C (a:=a) (k:=k)
 have k6: ∀i,i+1<K.length->jQ (Ln.eN K.length (wK G L K t X (bo.getD i 0))) (Ln.eN K.length (wK G L K t X (bo.getD (i+1) 0)))<0:=λi hi=>by
  have s:=Iz.1 m2 i (i+1) om om om
  have lk:=λi (hi:i<K.length)=>show lz.getD i []=Ln.eN K.length (wK G L K t X (bo.getD i 0)) by
   rw[eb,gV,Al,gV,dJ om];rfl
  have e1:=lk i om;have e2:=lk (i+1) hi;rw[gV,dJ om] at e1 e2;have e1:lz[i]=_:=e1;have e2:lz[i+1]=_:=e2;rw[e1,e2] at s;have s:jQ _ _<=0:=s
  have i7:bo.getD i 0≠bo.getD (i+1) 0:=λh=>by
   have:=(aoJ pb (a:=i) (b:=i+1) om hi).1 h;omega
  refine Int.lt_iff_le_and_ne.2 ⟨s,λe=>alS hG E ik C (bx i om) (bx (i+1) hi) i7 (anN _ _ e)⟩
 have eig:=λ(o:H) (f:Fr h4 o) (x:Int)=>YX _ O R o (gc.mono f) hL ik C rp ci a6 x
 have g0:=λ{x:Nat}=>alX (r:=K.length) (p:=t.p) (w:=wK G L K t X) (i:=ci) (λa ha=>wp a ci ha a6) (x:=x)
 have g8:=anG (r:=K.length) (p:=t.p) (w:=wK G L K t X) (i:=ci) (λa ha=>wp a ci ha a6)
 have i9:=λ{f:Nat->Int}=>anZ (f:=f) pb
 have cs: ∀j k,mW G L K ci j k<=5040:=λj k=>kQ (ahH (n:=n) ci j k) l5
 have zl: ∀k,k<K.length->0<lI G L K k/\((lI G L K k:Nat):Int)<t.p:=λk U=>⟨Lk hG E ik U,Wi hG E ik C U⟩
 obtain⟨r,hr⟩:=exI K.length
 obtain⟨c,hc⟩:=exI (JT L K X)
 obtain⟨e,he⟩:=exI (wK G L K t X)
 obtain⟨z,hz⟩:=exI (lI G L K)
 obtain⟨q,hq⟩:=exI (mW G L K ci)
 obtain⟨p,hp⟩:=exI t.p
 obtain⟨σ,l2⟩: ∃σ:Nat->Nat,(λi=>ao.getD i 0)=σ:=⟨_,rfl⟩
 have i8: ∀i,ao.getD i 0=σ i:=λi=>by rw[<-l2]
 obtain⟨τ,l3⟩: ∃τ:Nat->Nat,(λi=>bo.getD i 0)=τ:=⟨_,rfl⟩
 have k5: ∀i,bo.getD i 0=τ i:=λi=>by rw[<-l3]
 replace c7:=λ{a j:Nat} (ha:a<K.length) (hj:j<K.length)=>c7 a ci j ha a6 hj
 clear CW
 simp only[hr,hc,he,hz,hq,hp,i8,k5] at*
 have u1:{o:H}->Fr W o-> ∀k,k<r->o.cell iu (ou+k)=some (wu.getD k .undef):=λF k U=>by rw[F.cell (d6 om)];exact i1 k U
 have w2:{o:H}->Fr W o-> ∀k,k<r->o.cell iw (ow+k)=some (ww.getD k .undef):=λF k U=>by rw[F.cell (d4 om)];exact d8 k U
 have m1:{o:H}->Fr W o-> ∀k,k<r->o.cell im (oM+k)=some (wm.getD k .undef):=λF k U=>by rw[F.cell (g9 om)];exact e9 k U
 have z1:{o:H}->Fr W o-> ∀k,k<r->o.cell j2 (i3+k*3+2)=some (aC (z k:Nat)):=λF k U=>by rw[F.cell (f8 k U).1];exact (f8 k U).2
 have md: ∀x:Int,0<=x%p/\x%p<p:=λx=>⟨Int.emod_nonneg _ om,Int.emod_lt_of_pos _ om⟩
 have tm: ∀x:Int,0<=x->x.tmod p=x%p:=λx hx=>Int.tmod_eq_emod_of_nonneg hx
 have mb: ∀x y:Int,0<=x->x<p->0<=y->y<p->0<=x*y/\x*y<=10000:=λx y a b c d=>⟨Int.mul_nonneg a c,Int.le_trans (Int.mul_le_mul (show x<=100 by omega) (show y<=100 by omega) c om) om⟩
 have b5: ∀x:Int,decide (x≠x)=false:=λx=>bZ λh=>h rfl
 refine dG (λA o=>(∃g:Nat->V,A=(g 0:: aC ci::g 2:: .ptr B 0:: aC p::g 5::g 6::g 7::uw::g 9:: aC r::g 11::g 12::g 13::g 14::g 15::g 16::g 17::g 18::g 19::g 20::g 21::g 22::g 23::g 24::g 25::g 26::g 27::g 28::g 29::g 30::g 31::g 32::g 33::g 34::g 35::g 36::g 37::g 38::g 39::g 40::g 41::g 42::g 43:: []))/\Fr W o) ?_ ?_
 .refine aP (λY A o=> ∃a:Nat,(∃g:Nat->V,A=(g 0:: aC ci::g 2:: .ptr B 0:: aC p::u::vl::g 7::uw::g 9:: aC r::um::g 12:: aC a::g 14::g 15::g 16::g 17::g 18::g 19::g 20::g 21::g 22::g 23::g 24::g 25::g 26::g 27::g 28::g 29::g 30::g 31::g 32::g 33::g 34::g 35::g 36::g 37::g 38::g 39::g 40::g 41::g 42::g 43:: []))/\a<=r/\Fr W o/\Y=r-a) r
   ⟨0,aD rfl,fY _,Fr.refl _,rfl⟩ ?_
  rintro Y A o ⟨a,⟨g,rfl⟩,ha,F,rfl⟩
  by_cases J:(a:Int)<(r:Int)
  case neg=>
   have d1:=bZ J;refine bM d1 ?_;exact⟨aD rfl,F⟩
  have d1:=cV J
  have P:a<r:=om
  obtain⟨ra,oa,a7,b9,a4,a5⟩:=f4 a P
  have i0:Ci 1 (ww.getD a .undef) (aC 0)=some (.ptr ra oa):=by rw[a7.ixa .i64 0 om om];rfl
  have b3:=a5 0 r0
  rw[<-F.cell a4,Nat.add_zero,w1 _ (bx a P)] at b3
  have b2:decide ((1:Int)≠1)=false:=rfl
  obtain⟨bz,m6,j4⟩:=i5 (τ a) (bx a P)
  by_cases z0:a=0
  case' pos=>
   have b4:decide ((0:Int)<(a:Int))=false:=bZ om
   have F9:=F.cU (n:=o.next+33) om
   refine Ux d1 @a0.ixa (w2 F a P) b9 b5 i0 b3 b2 b4 ?_
  case' neg=>
   have b4:decide ((0:Int)<(a:Int))=true:=cV om
   have e3:(a:Int)- 1=((a- 1:Nat):Int):=om
   simp(disch:=omega)only[go_sem,d1,a0.ixa,w2 F a P,b9,b5,i0,b3,b2,b4,e3,w2 F (a- 1) om]
   have fb:=(Fr.refl o).cU (n:=o.next+33) om
   refine (anR _ _ _ _ _ ((b7 (a- 1) om).mono (F.trans fb)) ((b7 a P).mono (F.trans fb)) (by rw[Ln.aW,Ln.aW]) (by rw[Ln.aW];omega)).mono ?_
   rintro _ h9 ⟨rfl,f9⟩
   have bf:=k6 (a- 1) om
   rw[show a- 1+1=a by omega] at bf
   rw[cV bf]
   have F9:=(F.trans fb).trans f9
   clear fb f9
   refine aT ?_
  all_goals
   refine dG (λA o=>(∃g:Nat->V,A=(g 0:: aC ci::g 2:: .ptr B 0:: aC p::u::vl::g 7::uw::g 9:: aC r::um::g 12:: aC a:: .bool true::g 15::g 16::g 17::g 18::g 19::g 20::g 21::g 22::g 23::g 24::g 25::g 26::g 27::g 28::g 29::g 30::g 31::g 32::g 33::g 34::g 35::g 36::g 37::g 38::g 39::g 40::g 41::g 42::g 43:: []))/\Fr W o) ?_ ?_
   .refine aP (λY A o=> ∃(b:Nat) (f:Bool),(∃g:Nat->V,A=(g 0:: aC ci::g 2:: .ptr B 0:: aC p::u::vl::g 7::uw::g 9:: aC r::um::g 12:: aC a:: .bool f:: aC b::g 16::g 17::g 18::g 19::g 20::g 21::g 22::g 23::g 24::g 25::g 26::g 27::g 28::g 29::g 30::g 31::g 32::g 33::g 34::g 35::g 36::g 37::g 38::g 39::g 40::g 41::g 42::g 43:: []))/\b<=r/\(∀k,k<b->σ k=τ a->f=true)/\Fr W o/\Y=r-b) r
     ⟨0,_,aD rfl,fY _,λk U=>om,F9,rfl⟩ ?_
    clear F9 F b3
    rintro Y A hx ⟨b,f,⟨g,rfl⟩,hb,hf,F,rfl⟩
    by_cases J:(b:Int)<(r:Int)
    case neg=>
     have d2:=bZ J;obtain rfl:=hf bz om j4;refine bM d2 ?_;exact⟨aD rfl,F⟩
    have d2:=cV J
    have b8:b<r:=om
    obtain⟨rb,ob,f0,h0,d9⟩:=ru b b8
    have ib:Ci 1 (wu.getD b .undef) (aC 0)=some (.ptr rb ob):=by rw[f0.ixa .i64 0 om om];rfl
    refine bM d2 ?_
    refine dG (λA o=> ∃s:Bool,(∃g:Nat->V,A=(g 0:: aC ci::g 2:: .ptr B 0:: aC p::u::vl::g 7::uw::g 9:: aC r::um::g 12:: aC a:: .bool f:: aC b:: .bool s::g 17::g 18::g 19::g 20::g 21::g 22::g 23::g 24::g 25::g 26::g 27::g 28::g 29::g 30::g 31::g 32::g 33::g 34::g 35::g 36::g 37::g 38::g 39::g 40::g 41::g 42::g 43:: []))/\(σ b=τ a->s=true)/\Fr W o) ?_ ?_
    .refine aP (λY A o=> ∃(k:Nat) (s:Bool),(∃g:Nat->V,A=(g 0:: aC ci::g 2:: .ptr B 0:: aC p::u::vl::g 7::uw::g 9:: aC r::um::g 12:: aC a:: .bool f:: aC b:: .bool s:: aC k::g 18::g 19::g 20::g 21::g 22::g 23::g 24::g 25::g 26::g 27::g 28::g 29::g 30::g 31::g 32::g 33::g 34::g 35::g 36::g 37::g 38::g 39::g 40::g 41::g 42::g 43:: []))/\k<=r/\(σ b=τ a->s=true)/\Fr W o/\Y=r-k) r
      ⟨0,_,aD rfl,fY _,λ_=>rfl,F,rfl⟩ ?_
     clear F
     rintro Y A hx ⟨k,s,⟨g,rfl⟩,U,hs,F,rfl⟩
     by_cases J:(k:Int)<(r:Int)
     case neg=>
      have d3:=bZ J;refine bM d3 ?_;exact⟨s,aD rfl,hs,F⟩
     have d3:=cV J
     have Z:k<r:=om
     cases s with
     |false=>
      refine bM d3 ?_;rw[fJ k];exact⟨r-(k+1),om,k+1,_,aD rfl,om,hs,F.cU om,rfl⟩
     |true=>
      have c1:=cp (σ b) 0 (ax b b8) r0;have c2:=cp (σ b) k (ax b b8) Z;have c3:=wp (τ a) k (bx a P) Z;have c4:=md (z k);have c5:=mb _ _ c1.1 c1.2 c3.1 c3.2;have c6:=mb _ _ c4.1 c4.2 c2.1 c2.2;have t1:=tm (z k) om;have i4:=d9 0 r0;rw[<-F.cell h0,Nat.add_zero] at i4;have e6:=d9 k Z;rw[<-F.cell h0] at e6;have b6:=a5 k Z;rw[<-F.cell a4] at b6;simp(disch:=omega)only[go_sem,d3,g6.ixa,u1 F b b8,ib,i4,a0.ixa,w2 F a P,a7.ixa,b6,l1.ixa,z1 F k Z,t1,f0.ixa,e6];rw[fJ k];refine⟨r-(k+1),om,k+1,_,aD rfl,om,λee=>cV ?_,F.cU om,rfl⟩;have:=fit (k:=k) (bx a P);rw[<-ee] at this;rw[<-ee];exact Int.tmod_eq_zero_of_dvd (Int.dvd_of_emod_eq_zero this)
    clear F
    rintro A hx ⟨s,⟨g,rfl⟩,hs,F⟩
    cases f with
    |true=>
     refine aT ?_;rw[fJ b];exact⟨r-(b+1),om,b+1,_,aD rfl,om,λ_ _ _=>rfl,F,rfl⟩
    |false=>
     refine aT ?_;rw[fJ b];refine⟨r-(b+1),om,b+1,_,aD rfl,om,λk U e5=>?_,F,rfl⟩
     by_cases ek:k=b
     .exact hs (by rw[<-ek];exact e5)
     .exact absurd (hf k om e5) deC
   clear F9 F b3
   rintro A hx ⟨⟨g,rfl⟩,F⟩
   refine aT ?_
   refine dG (λA o=>(∃g:Nat->V,A=(g 0:: aC ci::g 2:: .ptr B 0:: aC p::u::vl::g 7::uw::g 9:: aC r::um::g 12:: aC a:: .bool true::g 15::g 16::g 17::g 18::g 19::g 20::g 21::g 22::g 23::g 24::g 25::g 26::g 27::g 28::g 29::g 30::g 31::g 32::g 33::g 34::g 35::g 36::g 37::g 38::g 39::g 40::g 41::g 42::g 43:: []))/\Fr W o) ?_ ?_
   .refine aP (λY A o=> ∃j:Nat,(∃g:Nat->V,A=(g 0:: aC ci::g 2:: .ptr B 0:: aC p::u::vl::g 7::uw::g 9:: aC r::um::g 12:: aC a:: .bool true::g 15::g 16::g 17:: aC j::g 19::g 20::g 21::g 22::g 23::g 24::g 25::g 26::g 27::g 28::g 29::g 30::g 31::g 32::g 33::g 34::g 35::g 36::g 37::g 38::g 39::g 40::g 41::g 42::g 43:: []))/\j<=r/\Fr W o/\Y=r-j) r
     ⟨0,aD rfl,fY _,F,rfl⟩ ?_
    clear F
    rintro Y A hx ⟨j,⟨g,rfl⟩,hj,F,rfl⟩
    by_cases J:(j:Int)<(r:Int)
    case neg=>
     have d2:=bZ J;refine bM d2 ?_;exact⟨aD rfl,F⟩
    have d2:=cV J
    have a9:j<r:=om
    obtain⟨rj,oj,j8,j7,j1,l6⟩:=rm j a9
    obtain⟨fj,h8⟩: ∃f:Nat->Int,f=λk=>((q j k:Nat):Int)%p*e (τ a) k:=⟨_,rfl⟩
    have l8:sm r fj%p=e (τ a) ci*e (τ a) j%p:=by
     rw[<-c7 (bx a P) a9,h8];refine dM λk _=>?_
     rw[mul_mod (zP _ _) rfl,Int.mul_comm]
    refine nW d2 @c9.ixa (m1 F j a9) j7 b5 ?_
    refine dG (λA o=>(∃g:Nat->V,A=(g 0:: aC ci::g 2:: .ptr B 0:: aC p::u::vl::g 7::uw::g 9:: aC r::um::g 12:: aC a:: .bool true::g 15::g 16::g 17:: aC j:: aC (sm r fj%p)::g 20::g 21::g 22::g 23::g 24::g 25::g 26::g 27::g 28::g 29::g 30::g 31::g 32::g 33::g 34::g 35::g 36::g 37::g 38::g 39::g 40::g 41::g 42::g 43:: []))/\Fr W o) ?_ ?_
    .refine aP (λY A o=> ∃k:Nat,(∃g:Nat->V,A=(g 0:: aC ci::g 2:: .ptr B 0:: aC p::u::vl::g 7::uw::g 9:: aC r::um::g 12:: aC a:: .bool true::g 15::g 16::g 17:: aC j:: aC (sm k fj%p):: aC k::g 21::g 22::g 23::g 24::g 25::g 26::g 27::g 28::g 29::g 30::g 31::g 32::g 33::g 34::g 35::g 36::g 37::g 38::g 39::g 40::g 41::g 42::g 43:: []))/\k<=r/\Fr W o/\Y=r-k) r
      ⟨0,aD rfl,fY _,F,rfl⟩ ?_
     clear F
     rintro Y A hx ⟨k,⟨g,rfl⟩,U,F,rfl⟩
     by_cases J:(k:Int)<(r:Int)
     case neg=>
      have d3:=bZ J;obtain rfl:k=r:=om
      refine bM d3 ?_;exact⟨aD rfl,F⟩
     have d3:=cV J
     have Z:k<r:=om
     have c1:=md (q j k)
     have c2:=wp (τ a) k (bx a P) Z
     have c3:=mb _ _ c1.1 c1.2 c2.1 c2.2
     have c4:=md (sm k fj)
     have t1:=tm (q j k) om
     have t2:=tm (sm k fj%p+((q j k:Nat):Int)%p*e (τ a) k) om
     have i6:=l6 k Z
     rw[<-F.cell j1] at i6
     have b6:=a5 k Z
     rw[<-F.cell a4] at b6
     simp(disch:=omega)only[go_sem,d3,c9.ixa,m1 F j a9,j8.ixa,i6,t1,a0.ixa,w2 F a P,a7.ixa,b6,t2]
     rw[Int.emod_add_emod,show sm k fj+((q j k:Nat):Int)%p*e (τ a) k=sm (k+1) fj by rw[bQ,h8],show (k:Int)+1=((k+1:Nat):Int) from om]
     exact⟨r-(k+1),om,k+1,aD rfl,om,F.cU om,rfl⟩
    clear F
    rintro A hx ⟨⟨g,rfl⟩,F⟩
    have c1:=wp (τ a) ci (bx a P) a6
    have c2:=wp (τ a) j (bx a P) a9
    have c3:=mb _ _ c1.1 c1.2 c2.1 c2.2
    have t1:=tm _ c3.1
    have a8:=a5 ci a6
    rw[<-F.cell a4] at a8
    have e7:=a5 j a9
    rw[<-F.cell a4] at e7
    rw[l8]
    refine Ie @a0.ixa (w2 F a P) @a7.ixa a8 e7 t1 b5 ?_
    rw[fJ j]
    exact⟨r-(j+1),om,j+1,aD rfl,om,F.cU om,rfl⟩
   clear F
   rintro A hx ⟨⟨g,rfl⟩,F⟩
   refine aT ?_
   rw[fJ a]
   exact⟨r-(a+1),om,a+1,aD rfl,om,F,rfl⟩
 rintro A o ⟨⟨g,rfl⟩,F⟩
 have fs: ∀x:Nat,0<=sm r (λa=>if e a ci=(x:Int) then (1:Int) else 0)/\sm r (λa=>if e a ci=(x:Int) then (1:Int) else 0)<=r:=λx=>by
  have l7: ∀m:Nat,0<=sm m (λa=>if e a ci=(x:Int) then (1:Int) else 0)/\sm m (λa=>if e a ci=(x:Int) then (1:Int) else 0)<=m:=λm=>by
   induction m with
   |zero=>exact⟨Int.le_refl 0,Int.le_refl 0⟩
   |succ m ih=>rw[bQ];split<;>omega
  exact l7 r
 have fa: ∀x:Nat,0<=sm x (λx=>sm r λa=>if e a ci=(x:Int) then (1:Int) else 0)/\sm x (λx=>sm r λa=>if e a ci=(x:Int) then (1:Int) else 0)<=12*x:=λx=>by
  induction x with
  |zero=>exact⟨Int.le_refl 0,Int.le_refl 0⟩
  |succ x ih=>rw[bQ];have:=fs x;omega
 refine aT ?_
 refine dG (λA o=>(∃g:Nat->V,A=(g 0::g 1::g 2::g 3::g 4::g 5::g 6::g 7::g 8::g 9:: aC r::g 11::g 12::g 13::g 14::g 15::g 16::g 17::g 18::g 19::g 20:: aC r::g 22::g 23::g 24::g 25::g 26::g 27::g 28::g 29::g 30::g 31::g 32::g 33::g 34::g 35::g 36::g 37::g 38::g 39::g 40::g 41::g 42::g 43:: []))/\Fr W o) ?_ ?_
 .refine aP (λY A o=> ∃x:Nat,(∃g:Nat->V,A=(g 0:: aC ci::g 2:: .ptr B 0:: aC p::g 5::g 6::g 7::uw::g 9:: aC r::g 11::g 12::g 13::g 14::g 15::g 16::g 17::g 18::g 19::g 20:: aC (sm x λx=>sm r λa=>if e a ci=(x:Int) then (1:Int) else 0):: aC x::g 23::g 24::g 25::g 26::g 27::g 28::g 29::g 30::g 31::g 32::g 33::g 34::g 35::g 36::g 37::g 38::g 39::g 40::g 41::g 42::g 43:: []))/\x<=p/\Fr W o/\Y=p-x) p
   ⟨0,aD rfl,fY _,F,rfl⟩ ?_
  clear F o
  rintro Y A o ⟨x,⟨g,rfl⟩,hx,F,rfl⟩
  by_cases J:(x:Int)<(p:Int)
  case neg=>
   have d1:=bZ J;obtain rfl:x=p:=om
   rw[g8];refine bM d1 ?_;exact⟨aD rfl,F⟩
  have d1:=cV J
  have k2:x<p:=om
  simp(disch:=omega)only[go_sem,d1,rB _ (F7.trans F)]
  refine (eig o (F7.trans F) (x:Int)).mono ?_
  rintro _ h9 ⟨u9,rfl,l9,f9⟩
  rw[g0 k2] at l9
  replace F:=F.trans f9
  clear f9
  obtain⟨N,hN⟩:=exI (sm r (λa=>if e a ci=(x:Int) then (1:Int) else 0))
  have k7:sm r (λa=>if e (τ a) ci=(x:Int) then (1:Int) else 0)=N:=by
   rw[<-hN];exact i9 (f:=λa=>if e a ci=(x:Int) then (1:Int) else 0)
  have fx:=fs x
  have m4:=fa x
  rw[hN] at l9 fx
  refine aT ?_
  refine dG (λA o=>(∃g:Nat->V,A=(g 0:: aC ci::g 2:: .ptr B 0:: aC p::g 5::g 6::g 7::uw::g 9:: aC r::g 11::g 12::g 13::g 14::g 15::g 16::g 17::g 18::g 19::g 20:: aC (sm x λx=>sm r λa=>if e a ci=(x:Int) then (1:Int) else 0):: aC x::u9:: aC 0:: aC N::g 26::g 27::g 28::g 29::g 30::g 31::g 32::g 33::g 34::g 35::g 36::g 37::g 38::g 39::g 40::g 41::g 42::g 43:: []))/\Fr W o) ?_ ?_
  .refine aP (λY A o=> ∃a:Nat,(∃g:Nat->V,A=(g 0:: aC ci::g 2:: .ptr B 0:: aC p::g 5::g 6::g 7::uw::g 9:: aC r::g 11::g 12::g 13::g 14::g 15::g 16::g 17::g 18::g 19::g 20:: aC (sm x λx=>sm r λa=>if e a ci=(x:Int) then (1:Int) else 0):: aC x::u9:: aC 0:: aC (sm a λa=>if e (τ a) ci=(x:Int) then (1:Int) else 0):: aC a::g 27::g 28::g 29::g 30::g 31::g 32::g 33::g 34::g 35::g 36::g 37::g 38::g 39::g 40::g 41::g 42::g 43:: []))/\a<=r/\(0<=(sm a λa=>if e (τ a) ci=(x:Int) then (1:Int) else 0)/\(sm a λa=>if e (τ a) ci=(x:Int) then (1:Int) else 0)<=a)/\Fr W o/\Y=r-a) r
    ⟨0,aD rfl,fY _,⟨Int.le_refl 0,Int.le_refl 0⟩,F,rfl⟩ ?_
   clear F
   rintro Y A j9 ⟨a,⟨g,rfl⟩,ha,hs,F,rfl⟩
   by_cases J:(a:Int)<(r:Int)
   case neg=>
    have d2:=bZ J;obtain rfl:a=r:=om
    rw[k7];refine bM d2 ?_;exact⟨aD rfl,F⟩
   have d2:=cV J
   have P:a<r:=om
   obtain⟨ra,oa,a7,b9,a4,a5⟩:=f4 a P
   have a8:=a5 ci a6
   rw[<-F.cell a4] at a8
   have es:(sm (a+1) λa=>if e (τ a) ci=(x:Int) then (1:Int) else 0)=(sm a λa=>if e (τ a) ci=(x:Int) then (1:Int) else 0)+if e (τ a) ci=(x:Int) then 1 else 0:=bQ ..
   by_cases h1:e (τ a) ci=(x:Int)
   .have d5:=cV h1
    rw[aS h1] at es
    refine wE d2 @a0.ixa (w2 F a P) @a7.ixa a8 d5 ?_
    rw[<-es,show (a:Int)+1=((a+1:Nat):Int) from om]
    exact⟨r-(a+1),om,a+1,aD rfl,om,om,F,rfl⟩
   .have d5:=bZ h1
    rw[aQ h1,Int.add_zero] at es
    refine wE d2 @a0.ixa (w2 F a P) @a7.ixa a8 d5 ?_
    rw[<-es,show (a:Int)+1=((a+1:Nat):Int) from om]
    exact⟨r-(a+1),om,a+1,aD rfl,om,om,F,rfl⟩
  clear F
  rintro A j9 ⟨⟨g,rfl⟩,F⟩
  refine iG b0 l9 b5 ?_
  rw[<-hN,show (sm x λx=>sm r λa=>if e a ci=(x:Int) then (1:Int) else 0)+sm r (λa=>if e a ci=(x:Int) then (1:Int) else 0)=sm (x+1) λx=>sm r λa=>if e a ci=(x:Int) then (1:Int) else 0 from (bQ ..).symm,show (x:Int)+1=((x+1:Nat):Int) from om]
  exact⟨p-(x+1),om,x+1,aD rfl,om,F,rfl⟩
 clear F o
 rintro A o ⟨⟨g,rfl⟩,F⟩
 simp(disch:=omega)only[go_sem,eq_self,decide_true]
 exact (k4.trans F).cU om
end Go.Proofs.YtoighkablmjfeaaGreat
namespace Go.Ay
open Go Go.Sort Go.Proofs Go.Shelf
section
variable {w:World} {P:Program} {ρ:Ren}
theorem Xr {a:Array Obj}{b:Nat}(c:b<w.heap.size):(grow w a).heap[b]? =w.heap[b]? :=Array.getElem?_append_left c
theorem iR.grow {P:Program}{m:M}{h:H}{w:World}(d:HR P m h w)(i:Array Obj):iR P m h w m h (grow w i):=by
 refine⟨Ext.refl m,⟨λid j a=>?_,d.inj⟩,λ_ _ h=> .inl h,⟨rfl,rfl,rfl,by simp [Sort.grow],λb k _=>Xr k⟩,λ_ h=> .inl h,dN _,λ_ h=> .inl h,λ_ _ h=>h⟩;obtain⟨q,f,c⟩:=d.live id j a;exact⟨q,f,OR.mono (Ext.refl m) (Xr c.lt) c⟩
theorem acP {vs:List V}(h:vs.all isI=true){i:Nat}{v:V}(hi:vs[i]? =some v):v= .int .i64 (unI v):=by
 have:=uR.1 h v (HP hi)
 cases v with
 |int k n=>cases k<;>simp [isI] at this;rfl
 |_=>simp [isI] at this
theorem AJ (L:SlLaysM.n5 P ρ){args:List V}{h h':H}{v:V}(a:Pu args h=some (v,h')){m:M}{xs:Array Value}(N:iL m args xs.toList)(K:HR P m h w)(hl:Na m h.next):
  Calls P (ρ.f 5) xs w (zS P m h w v h'):=by
 unfold Pu at a
 split at a
 .rename_i hh id len a0
  match hq:xs.toList,N with
  | [x],N=>
  obtain⟨⟨p,c,o',Y,rfl,hc,ho,_⟩,_⟩:=N
  obtain rfl:xs= #[.slice (some ⟨p.1,p.2.1+o',none⟩) len c]:=by apply Array.toList_inj.1;rw[hq]
  split at a
  .rename_i R
   cases a
   subst R
   refine (AnyM.slices_Sort_int_none L _ c w).mono λe w' ⟨o,k⟩=>?_
   subst o k
   exact⟨_,m,rfl,⟨_,rfl,trivial⟩,iR.refl K hl.fresh⟩
  .rename_i R
   obtain rfl:=ho om
   split at a
   .rename_i d U
    split at a
    .rename_i hk
     have⟨r,t,s⟩:=hk
     cases a
     obtain⟨q,u,W,el,fr,l,J,Q,hv,F⟩:=K.live id _ U
     rw[Y] at u;cases u
     obtain rfl:=F rfl
     have B:=(Vm.1 l).1
     have cell: ∀i,i<d.length->W[p.2.1+i]? =some (.int .i64 ((d.map unI).getD i 0)):=λi hi=>by
      obtain⟨_,x,o,k⟩:=hv i _ (dJ hi);have e:=acP t (dJ hi);rw[e] at k;rw[o,show x=_ from k];simp [hi]
     have hh:Holds (Value.int .i64) w p.1 (p.2.1+0) (d.map unI).toArray:=λj A=>by
      have A:j<d.length:=by simpa using A
      have e1:=cell j A;refine⟨?_,?_⟩
      .simp only[World.cell?,l,Nat.add_zero,e1]
       simp [A]
      .simp [World.frozen?,l]
     have hn:(d.map unI).length=len:=by simpa using r
     have ct:=AnyM.slices_Sort_int L p.1 (p.2.1+0) c (d.map unI) w hh B (by rw[hn];exact s)
     rw[hn] at ct
     refine ct.mono λe w' ⟨o,n,os,k⟩=>?_
     subst o
     obtain⟨S,O⟩: ∃S,(d.map unI).mergeSort (λx y=>decide (x<=y))=S:=⟨_,rfl⟩
     rw[O] at k
     have lS:S.length=d.length:=by rw[<-O];simp
     have hw:(putRow (Value.int .i64) (Sort.ahead w n) p.1 (p.2.1+0) S.toArray).heap[p.1]? =some (.cells (putCells (Value.int .i64) (p.2.1+0) S.toArray W) el (0,0)):=by
      show (w.heap.modify p.1 _)[p.1]? =_;rw[Array.getElem?_modify,aS rfl,l];rfl
     have Zv:=iR.put (w':=putRow (Value.int .i64) (Sort.ahead w n) p.1 (p.2.1+0) S.toArray) K hl.fresh U rfl (o':= .cells false (S.map (.int .i64))) rfl Y
      ⟨_,el,(0,0),hw,by simp [putCells,J],by rw[dO,lS];exact Q,λi v hi=>by
       rw[Al] at hi;obtain⟨z,Z,rfl⟩:=kU.1 hi;have G:=(Iq.1 Z).1;refine⟨rfl,.int .i64 z,?_,rfl⟩;unfold putCells;rw[Array.getElem?_mapIdx,cell i om];simp only[Option.map_some,Nat.add_zero];rw[aS ⟨om,siO⟩];rw[show p.2.1+i-p.2.1=i by omega];have:=(Iq.1 Z).2
       simp [G,this],λ_=>rfl⟩
      rfl rfl rfl (by show (w.heap.modify p.1 _).size=_;simp) (λb l=>by show (w.heap.modify p.1 _)[b]? =_;rw[Array.getElem?_modify,aQ (Ne.symm l)])
     subst k
     rw[O]
     exact⟨_,m,rfl,⟨_,rfl,trivial⟩,Zv.trans (iR.grow Zv.rel os)⟩
    .cases a
   .cases a
 .cases a
theorem Xm (L:SlLaysM.n5 P ρ):enters P (ρ.f 5)=true:=by
 obtain⟨c,a,b⟩:=L.f5;unfold enters;rw[b];simp only[Option.any_some,bne,a]
 rfl
theorem akF (L:SlLaysM.n5 P ρ):TR P (ρ.f 5):=λ_ _ _ _ a=>⟨Xm L,λ_ _ _ c d b=>callsIn_wide.2 (AJ L a c d b)⟩
end
end Go.Ay
