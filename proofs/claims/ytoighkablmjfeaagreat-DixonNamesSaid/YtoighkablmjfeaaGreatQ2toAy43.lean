/- Texts of the claim. -/
import Derived.Test.YtoighkablmjfeaaGreatP7atoM5d
import Derived.Test.YtoighkablmjfeaaGreatAy14toP5q
import Derived.Test.YtoighkablmjfeaaGreatM5etoP8i
import Derived.Test.YtoighkablmjfeaaGreatP5rtoP6v
import Derived.Shelf.SortM.Plain
import Derived.Shelf.SortM.SortNone
set_option maxHeartbeats 32000000
set_option maxRecDepth 100000
namespace Go.Proofs.YtoighkablmjfeaaGreat
open Go Go.Ay Go.Pm
def abO (n:Nat)(x:List Nat):Nat->Nat->Nat
 |0,k=>k
 |f+1,k=>if pw n x k=bI n then k else abO n x f (k+1)
def IW (n:Nat)(x:List Nat):Nat:=abO n x 420 1
theorem GP {n:Nat}{x:List Nat}(X:bJ n x): ∀f k,0<k->k<=fC x n->fC x n<=k+f->abO n x f k=fC x n
 |0,k,_,h1,h2=>by show k=_;omega
 |f+1,k,h0,h1,h2=>by
  unfold abO;split
  .rename_i e
   exact Nat.le_antisymm h1 (Nat.le_of_dvd h0 ((mC X k).2 e))
  .rename_i e
   refine GP X f (k+1) om ?_ om
   by_cases h:k=fC x n
   .exact absurd ((mC X k).1 (by rw[h];exact Nat.dvd_refl _)) e
   .omega
theorem acT {n:Nat}{x:List Nat}(X:bJ n x)(a:n<=7):fC x n=IW n x:=
 (GP X 420 1 om (rP X) (by have:=Nat.le_of_dvd om (Zo X a);omega)).symm
def cRb (L:LN)(i j:Nat):Bool:=L.any λc=>bL (L.getD i []) c==L.getD j []
def Xf (L:LN)(i:Nat):List Nat:=(List.range L.length).filter (cRb L i)
def Xt (L:LN):List Nat:=(List.range L.length).filter λj=>(List.range j).all λi=>!cRb L i j
def aiO (n:Nat)(L:LN)(r s:Nat):Bool:=decide (IW n (L.getD r [])<IW n (L.getD s [])\/IW n (L.getD r [])=IW n (L.getD s [])/\((Xf L r).length<(Xf L s).length\/(Xf L r).length=(Xf L s).length/\r<s))
section
variable {n:Nat} {G:List Nat->Prop} {L:LN} {K:List Nat}
theorem ahF (E:fW G L){x y:List Nat}:cj G x y↔(L.any λc=>bL x c==y)=true:=by
 rw[List.any_eq_true];constructor
 .rintro⟨c,hc,e⟩
  exact⟨c,(E.mem c).2 hc,by simpa using e⟩
 .rintro⟨c,hc,e⟩
  exact⟨c,(E.mem c).1 hc,by simpa using e⟩
theorem AH (E:fW G L){i j:Nat}:cR G L i j↔cRb L i j=true:=ahF E
theorem aiD (E:fW G L)(i j:Nat)(d:Decidable (cR G L i j)): @decide (cR G L i j) d=cRb L i j:=by
 rw[Ri,xF];exact AH E
theorem Uk (E:fW G L)(i:Nat):iK G L i=Xf L i:=by
 unfold iK Xf;exact List.filter_congr λj _=>aiD E i j _
theorem WY (E:fW G L):dR G L L.length=Xt L:=by
 unfold dR Xt;refine List.filter_congr λj _=>?_
 classical
 rw[Ri,xF,uR];unfold HN;constructor
 .intro h i hi
  have:=h i (mS.1 hi);rw[AH E] at this;simpa using this
 .intro h i hi
  have:=h i (mS.2 hi);rw[AH E];simpa using this
theorem amP (b:oK n G)(E:fW G L): ∀x∈L,bJ n x:=λx a=>b.cF ((E.mem x).1 a)
theorem YP (a:oK n G)(E:fW G L)(b:n<=7){r:Nat}(c:r<L.length):fC (L.getD r []) n=IW n (L.getD r []):=acT (amP a E _ (bF c)) b
theorem ZD (a:oK n G)(E:fW G L)(b:n<=7){r s:Nat}(d:r<L.length)(c:s<L.length):IH n G L r s↔aiO n L r s=true:=by
 unfold IH aiO;rw[xF,YP a E b d,YP a E b c,Uk E,Uk E]
def KOk (n:Nat)(L:LN)(K:List Nat):Bool:=K.isPerm (Xt L)&&decide (K.Pairwise λr s=>aiO n L r s=true)
theorem KOk.isK (d:oK n G)(E:fW G L)(f:n<=7)(h:KOk n L K=true):vU n G L K:=by
 unfold KOk at h;rw[oD,xF] at h;have p:K.Perm (Xt L):=List.isPerm_iff.1 h.1
 have b: ∀r∈K,r<L.length:=λr a=>by
  have:=p.mem_iff.1 a;unfold Xt at this;exact mS.1 (Gh.1 this).1
 exact⟨by rw[WY E];exact p,List.Pairwise.imp_of_mem (λa c h=>(ZD d E f (b _ a) (b _ c)).2 h) h.2⟩
theorem KOk.eq (b:oK n G)(E:fW G L)(c:n<=7){a:List Nat}(h:KOk n L a=true)(k:vU n G L K):K=a:=k.uniq (KOk.isK b E c h)
end
def amK (n:Nat)(S:LN)(w:List Nat):List Nat:=w.foldl (λx i=>aZ x (S.getD i [])) (bI n)
theorem Yo {n:Nat}{S:LN}:(w:List Nat)->(x:List Nat)->(∀i∈w,i<S.length)->fG n (· ∈S) x->fG n (· ∈S) (w.foldl (λx i=>aZ x (S.getD i [])) x)
 | [],_,_,h=>h
 |i::w,x,hw,h=>Yo w _ (λj a=>hw j (by simp [a])) (h.mul (bF (hw i siM)))
def abT (n:Nat)(S L:LN)(ws:LN):Bool:=
 L==ws.map (amK n S)&&ws.all (λw=>w.all λi=>decide (i<S.length))&&decide (L.Pairwise λx y=>rX x y=true)&&L.all (λx=>x.length==n)&&L.contains (bI n)&&L.all λx=>S.all λg=>L.contains (aZ x g)
theorem abT.amU {n:Nat}{S L:LN}{ws:LN}(h:abT n S L ws=true):fW (fG n (· ∈S)) L:=by
 unfold abT at h;simp only[oD,beq_iff_eq,uR,xF,List.contains_iff_mem] at h;obtain⟨⟨⟨⟨⟨j,f⟩,l⟩,b⟩,k⟩,d⟩:=h;refine⟨List.Pairwise.imp_of_mem (λa i h=>(mO (by rw[b _ a,b _ i])).1 h) l,λx=>⟨λa=>?_,λa=>?_⟩⟩
 .rw[j] at a
  obtain⟨w,c,rfl⟩:=oG.1 a;exact Yo w _ (f w c) .one
 .induction a with
  |one=>exact k
  |mul _ hg ih=>exact d _ ih _ hg
def C4:LN:= [[1,2,3,0]]
def A4:LN:= [[1,2,0,3], [0,2,3,1]]
def L3:LN:= [[0,1,2], [0,2,1], [1,0,2], [1,2,0], [2,0,1], [2,1,0]]
def L4:LN:= [[0,1,2,3], [1,2,3,0], [2,3,0,1], [3,0,1,2]]
theorem YX:fW (fG 4 (· ∈C4)) L4:=abT.amU (ws:= [[], [0], [0,0], [0,0,0]]) (by decide+kernel)
theorem alK:KOk 3 L3 [0,1,3]=true:=by decide+kernel
theorem anI:KOk 4 L4 [0,2,1,3]=true:=by decide+kernel
def Wm (n:Nat)(x:List Nat):Bool:=x.length==n&&decide x.Nodup&&x.all λp=>decide (p<n)
theorem XG {n:Nat}{x:List Nat}(h:Wm n x=true):bJ n x:=by
 unfold Wm at h;simp only[oD,beq_iff_eq,uR,xF] at h;exact⟨h.1.1,h.1.2,h.2⟩
theorem VM: ∀g∈C4,bJ 4 g:=λg a=>XG ((uR.1 (show C4.all (Wm 4)=true by decide+kernel)) g a)
theorem Ta (h:H)(x y z:Int):lU h 1 [aC 0] 3 [(0,1,aC x),(1,1,aC y),(2,1,aC z)]=some (.sl h.next 0 3 (.kn 3),h.new (.cells false (ints [x,y,z]))):=by
 have e:cJ [aC 0] 3= [aC 0,aC 0,aC 0]:=rfl;simp [lU,fP,e,putAt,V.cells,V.one,ints]
theorem agX (h:H)(x y z w:Int):lU h 1 [aC 0] 4 [(0,1,aC x),(1,1,aC y),(2,1,aC z),(3,1,aC w)]=some (.sl h.next 0 4 (.kn 4),h.new (.cells false (ints [x,y,z,w]))):=by
 have e:cJ [aC 0] 4= [aC 0,aC 0,aC 0,aC 0]:=rfl;simp [lU,fP,e,putAt,V.cells,V.one,ints]
theorem agY (h:H){v u:V}(a:v.cells= [v]/\v.one=true)(b:u.cells= [u]/\u.one=true):lU h 1 [.aH] 2 [(0,1,v),(1,1,u)]=some (.sl h.next 0 2 (.kn 2),h.new (.cells false [v,u])):=by
 have e:cJ [V.aH] 2= [.aH,.aH]:=rfl;simp [lU,fP,e,putAt,a.1,a.2,b.1,b.2]
theorem pG (id o m:Nat)(c:qD):(V.sl id o m c).cells= [.sl id o m c]/\(V.sl id o m c).one=true:=⟨rfl,rfl⟩
theorem EZ {h:H}{ID:Nat}(a:h.next=ID)(l:List Int): ∃x,h.new (.cells false (ints l))=x/\x.next=ID+1/\SI x (.sl ID 0 l.length (.kn l.length)) l/\Fr h x:=by
 obtain⟨x,e,n,g,o,f⟩:=iI a (ints l);exact⟨x,e,n,SV.all (by rw[aE,jP]) om g _,f⟩
theorem SP.two {h h':H}{id:Nat}{v u:V}{a b:List Nat}(d:SI h v (zi a))(i:SI h u (zi b))(c:id<h'.next)(f:Fr h h')(g:h'.get id=cE [v,u])(cap:qD):SP h' (.sl id 0 2 cap) [a,b]:=
 ⟨[v,u],SV.all rfl c g _,d.mono f,i.mono f,trivial⟩
theorem SP.amI {h h':H}{id:Nat}{v:V}{a:List Nat}(c:SI h v (zi a))(b:id<h'.next)(f:Fr h h')(g:h'.get id=cE [v])(cap:qD):SP h' (.sl id 0 1 cap) [a]:=
 ⟨[v],SV.all rfl b g _,c.mono f,trivial⟩
theorem GC.sl {W:Nat->Prop}{h:H}{b:V}{n:Nat}{O:LN}{R:nZ}{G:List Nat->Prop}(g:GC W h b n O R G): ∃vO vR,b= .agg [aC n,vO,vR]/\vO.one=true/\vR.one=true/\dS vO vO=true/\dS vR vR=true:=by
 obtain⟨vO,vR,d,f,e,c,_,_,a,_,_⟩:=g.cw;exact⟨vO,vR,e,c.cT.2.1,a.cT.2.1,c.dS,a.dS⟩
theorem GC.el {W:Nat->Prop}{h:H}{a:V}{n:Nat}{O:LN}{R:nZ}{G:List Nat->Prop}{L:LN}(g:GC W h a n O R G)(E:fW G L):cK O R n 0 (bI n)=L:=(dV g.kT g.isc).1.uniq E
theorem uF {v:V}{h:H}{l:List Int}(s:SI h v l):v.cells= [v]/\v.one=true:=⟨(SV.cT s).1,(SV.cT s).2.1⟩
theorem dT {i:Decidable True}: @decide True i=true:=cV trivial
def SB (h:H)(v:V)(l:List Bool):Prop:=SV h v 1 (l.map V.bool)
theorem SB.mono {h h':H}{v:V}{l:List Bool}(s:SB h v l)(f:Fr h h'):SB h' v l:=SV.mono s f
theorem SB.open {h:H}{v:V}{l:List Bool}(s:SB h v l):dD v=some (aC (l.length:Int))/\ ∃id off,Sl v 1 l.length id off/\ ∀i,i<l.length->id<h.next/\h.cell id (off+i)=some (.bool (l.getD i false)):=by
 have d:(l.map V.bool).length=l.length:=dO ..;refine⟨by unfold dD;rw[SV.len s (n:=l.length) om om];rfl,?_⟩;obtain⟨id,off,c,a,b⟩:=SV.shape s l.length om om;exact⟨id,off,c,λi hi=>⟨a om,by rw[b i om,Al,List.getD,dJ hi];rfl⟩⟩
set_option maxRecDepth 100000
theorem GC.all {W:Nat->Prop}{h:H}{a:V}{n:Nat}{O:LN}{R:nZ}{G:List Nat->Prop}(g:GC W h a n O R G):fW G (cK O R n 0 (bI n))/\(cK O R n 0 (bI n)).length<=5040:=by
 have e:=dV g.kT g.isc;exact⟨e.1,by rw[e.2];exact kF g⟩
def fF (v:V)(id:Nat):Prop:= ∃off m c,v= .sl id off m c
theorem jI.sp' {W:Nat->Prop}{h:H}{v:V}{ws:List V}{l:LN}(sv:SV h v 1 ws)(p:jI W h ws l):SP h v l:=by
 refine⟨ws,sv,?_⟩;have a:=bH.length p
 exact bH.jF (by simpa using a) λi hi b=>by
  have:=(bH.get p i hi om).si;simpa using this
section
variable {h:H} {v:V} {ws:List V} {b k n:Nat} {A S Q:LN} {y x:List Nat}
def Vj (h:H)(v:V)(ws:List V)(b:Nat):Prop:= ∃id cap rest,v= .sl id 0 ws.length cap/\b<=id/\id<h.next/\h.get id=cE (ws++rest)/\(cap= .un 1\/cap= .kn 1/\ws.length+rest.length=1)
theorem Vj.sv (t:Vj h v ws b):SV h v 1 ws:=by
 obtain⟨id,a,c,rfl,i,d,f,_⟩:=t;exact .inr ⟨id,0,_,a,false,_,rfl,(jP _).symm,d,f,by rw[eE];omega,by rw[List.drop_zero,jP,List.take_left' rfl]⟩
theorem Vj.iU {h':H}(t:Vj h v ws b)(m:h.next<=h'.next)(i: ∀id,fF v id->h'.get id=h.get id):Vj h' v ws b:=by
 obtain⟨id,c,a,e,f,l,j,d⟩:=t;exact⟨id,c,a,e,f,om,by rw[i id ⟨_,_,_,e⟩];exact j,d⟩
theorem Vj.in (t:Vj h v ws b){id:Nat}(j:fF v id):b<=id/\id<h.next:=by
 obtain⟨i,f,a,rfl,d,c,_⟩:=t;obtain⟨_,_,_,e⟩:=j;cases e;exact⟨d,c⟩
theorem Vj.pop (t:Vj h v ws b)(q:ws.length=k+1):
  ∃v',pV 1 v none (some (aC k)) none=some v'/\Vj h v' (ws.take k) b/\ ∀id,fF v' id->fF v id:=by
 obtain⟨id,o,a,rfl,j,d,l,m⟩:=t
 have c:(ws.take k).length=k:=by rw[jG];omega
 have f:ws++a=ws.take k++(ws.drop k++a):=by rw[<-AA,List.take_append_drop]
 rcases m with rfl|⟨rfl,r⟩
 .refine⟨_,UM om om,⟨id,_,ws.drop k++a,by rw[c,Mc],j,d,by rw[l,f],.inl rfl⟩,λi ⟨_,_,_,e⟩=>by cases e;exact⟨_,_,_,rfl⟩⟩
 .refine⟨_,WN om om,⟨id,_,ws.drop k++a,by rw[c,Mc],j,d,by rw[l,f],.inr ⟨rfl,by rw[c,eE,jR];omega⟩⟩,λi ⟨_,_,_,e⟩=>by cases e;exact⟨_,_,_,rfl⟩⟩
theorem Vj.push {y:V}{S:Nat}{c:qD}(t:Vj h v ws b)(r:SV h (.sl S 0 1 c) 1 [y])(B:b<=h.next)(K:ws.length<1000000):
  ∃v' h',tW h 1 24 v (.sl S 0 1 c)=some (v',h')/\Vj h' v' (ws++ [y]) b/\(∀k,k<h.next-> ¬fF v k->h'.get k=h.get k)/\h.next<=h'.next/\h'.next<=h.next+1/\ ∀k,fF v' k->fF v k\/k=h.next:=by
 have e1:tW h 1 24 v (.sl S 0 1 c)=Ay.tV h 1 24 v 1 [y]:=by
  simp only[tW,r.len (n:=1) rfl om,r.slice]
 rw[e1]
 have q:=t.sv
 have i:=q.len (n:=ws.length) om om
 have l:=q.slice
 obtain⟨id,d,f,rfl,G,w,o,F⟩:=t
 unfold Ay.tV
 simp only[i,l]
 rw[aQ om,aS ⟨om,om⟩]
 have a: ∀g:H,g.next=h.next->(∀k,k<h.next->k≠id->g.get k=h.get k)-> ∃v' h',some (V.sl h.next 0 (ws.length+1) (.un 1),g.new (.cells false (ws++ [y])))=some (v',h')/\Vj h' v' (ws++ [y]) b/\(∀k,k<h.next-> ¬fF (.sl id 0 ws.length d) k->h'.get k=h.get k)/\h.next<=h'.next/\h'.next<=h.next+1/\ ∀k,fF v' k->fF (.sl id 0 ws.length d) k\/k=h.next:=by
  intro g gn u;refine⟨_,_,rfl,⟨h.next,_, [],by rw[eE];rfl,B,by rw[H.aM];omega,by rw[<-gn,H.aI,qH],.inl rfl⟩,λk j m=>?_,by rw[H.aM];omega,by rw[H.aM];omega,λk ⟨_,_,_,e⟩=>by cases e;exact .inr rfl⟩;rw[H.bG g om];exact u k j (λe=>m ⟨_,_,_,by rw[e]⟩)
 rcases F with rfl|⟨rfl,J⟩
 .simp only[o,if_true]
  exact a (h.set id none) rfl (λk _ j=>H.Cj h j none)
 .simp only
  by_cases e:ws.length+1<=1
  .rw[aS e]
   have e0:ws= []:=Zs om
   subst e0
   obtain⟨z,rfl⟩: ∃z,f= [z]:=List.length_eq_one_iff.1 (by simpa using J)
   have s:h.put id (0+([]:List V).length*1) [y]=some (h.set id (cE [y])):=by
    simp [H.put,o,putAt]
   rw[s]
   refine⟨_,_,rfl,⟨id,_, [],rfl,G,w,by rw[H.aJ];rfl,.inr ⟨rfl,rfl⟩⟩,λk j m=>H.Cj h (λe=>m ⟨0,0,.kn 1,by rw[e];rfl⟩) _,dN _,Nat.le_succ _,λk ⟨_,_,_,e⟩=>by cases e;exact .inl ⟨_,_,_,rfl⟩⟩
  .rw[aQ e]
   exact a h rfl (λ_ _ _=>rfl)
theorem Eh {n:Nat}(a:A.Pairwise Lt):A.Nodup:=a.imp λh e=>by rw[e] at h;exact h.irrefl
def My (A:LN)(k:Nat)(y:List Nat):LN:=A.take k++y::A.drop k
theorem nI {z:List Nat}:z∈My A k y↔z=y\/z∈A:=by
 unfold My;rw[Es,Hu];constructor
 .rintro (h|h|h)
  .exact .inr (List.mem_of_mem_take h)
  .exact .inl h
  .exact .inr (List.mem_of_mem_drop h)
 .rintro (h|h)
  .exact .inr (.inl h)
  .rw[<-List.take_append_drop k A,Es] at h
   rcases h with h|h
   .exact .inl h
   .exact .inr (.inr h)
theorem xE:(My A k y).length=A.length+1:=by
 unfold My;rw[eE,List.length_cons,jG,jR];omega
theorem YR {a b:List Nat}(A:bJ n a)(B:bJ n b)(u: ¬Lt a b)(h2:a≠b):Lt b a:=by
 have h: ∃i,i<n/\a.getD i 0≠b.getD i 0:=zL λh=>h2 (rL (by rw[A.len,B.len]) λi hi=>zL λd=>h ⟨i,by rw[<-A.len];exact hi,d⟩)
 obtain⟨i,hi,c⟩:=h
 have t: ∃i,(i<n/\a.getD i 0≠b.getD i 0)/\ ∀j,j<i-> ¬(j<n/\a.getD j 0≠b.getD j 0):=by
  revert hi c
  induction i using Nat.strongRecOn with
  |ind i ih=>
   intro hi c
   by_cases h: ∃j,j<i/\j<n/\a.getD j 0≠b.getD j 0
   .obtain⟨j,d,m,w⟩:=h
    exact ih j d m w
   .exact⟨i,⟨hi,c⟩,λj l o=>h ⟨j,l,o⟩⟩
 obtain⟨k,⟨r,q⟩,f⟩:=t;have s: ∀j,j<k->a.getD j 0=b.getD j 0:=λj l=>zL λd=>f j l ⟨om,d⟩
 rcases Nat.lt_or_gt_of_ne q with m|m
 .exact (u ⟨k,by rw[A.len];exact r,s,m⟩).elim
 .exact⟨k,by rw[B.len];exact r,λj l=>(s j l).symm,m⟩
theorem PN (l: ∀x∈A,bJ n x)(Y:bJ n y)(f:A.Pairwise Lt)(p:Plc A y k)(r:y∉A):(My A k y).Pairwise Lt:=by
 unfold My;rw[List.pairwise_append];have at':{z:List Nat}->z∈A.take k-> ∃i,i<k/\i<A.length/\A.getD i []=z:=λh=>(SW (d:= [])).1 h
 have bt:{z:List Nat}->z∈A.drop k-> ∃i,k<=i/\i<A.length/\A.getD i []=z:=λh=>by
  obtain⟨q,s,e⟩:=Bj.1 h;rw[jR] at s;rw[List.getElem_drop] at e;exact⟨k+q,om,om,by rw[List.getD,dJ om,<-e];rfl⟩
 have o: ∀z∈A.take k,Lt z y:=λz a=>by
  obtain⟨i,m,c,rfl⟩:=at' a;exact (mO (by rw[(l _ (bF c)).len,Y.len])).1 (p.lo i m)
 have hi: ∀z∈A.drop k,Lt y z:=λz a=>by
  obtain⟨i,m,c,rfl⟩:=bt a;have Z:=l _ (bF (d:= []) c);refine YR Z Y (λh=>?_) (λe=>r (by rw[<-e];exact bF c));have:=p.hi i m c;rw[(mO (by rw[Z.len,Y.len])).2 h] at this;cases this
 refine⟨f.sublist (List.take_sublist k A),List.pairwise_cons.2 ⟨hi,f.sublist (List.drop_sublist k A)⟩,λz a w j=>?_⟩;rcases Hu.1 j with rfl|j
 .exact o z a
 .have Z:=l z (List.mem_of_mem_take a)
  exact Lt.trans (by rw[Z.len,Y.len]) (o z a) (hi w j)
structure IA (n:Nat)(S A Q:LN):Prop where
 asc:A.Pairwise Lt
 gen: ∀x∈A,fG n (· ∈S) x
 one:bI n∈A
 sub: ∀x∈Q,x∈A
 cl: ∀x∈A,x∉Q-> ∀g∈S,aZ x g∈A
theorem IA.start (n:Nat)(S:LN):IA n S [bI n] [bI n]:=
 ⟨List.pairwise_singleton _ _,λx a=>by simp at a;subst a;exact .one,siM,λx a=>a,λx a h=>absurd a h⟩
theorem IA.done (j:IA n S A []):fW (fG n (· ∈S)) A:=by
 refine⟨j.asc,λx=>⟨j.gen x,λh=>?_⟩⟩
 induction h with
 |one=>exact j.one
 |mul _ hg ih=>exact j.cl _ ih List.not_mem_nil _ hg
structure KU (n:Nat)(S:LN)(x:List Nat)(i:Nat)(A Q:LN):Prop where
 asc:A.Pairwise Lt
 gen: ∀x∈A,fG n (· ∈S) x
 one:bI n∈A
 sub: ∀x∈Q,x∈A
 mem:x∈A
 cl: ∀z∈A,z∉Q->z=x\/ ∀g∈S,aZ z g∈A
 dn: ∀j,j<i->aZ x (S.getD j [])∈A
theorem KU.start (j:IA n S A (Q++ [x])):KU n S x 0 A Q:=
 ⟨j.asc,j.gen,j.one,λz a=>j.sub z (by simp [a]),j.sub x siM,λz a c=>by
  by_cases e:z=x
  .exact .inl e
  .exact .inr (j.cl z a (by simp [c,e])),λj d=>om⟩
theorem KU.done (j:KU n S x S.length A Q):IA n S A Q:=
 ⟨j.asc,j.gen,j.one,j.sub,λz d c g a=>by
  rcases j.cl z d c with rfl|h
  .obtain⟨i,hi,e⟩:=Bj.1 a
   have:=j.dn i hi;rwa [List.getD,dJ hi,Option.getD_some,e] at this
  .exact h g a⟩
theorem KU.skip {i:Nat}(j:KU n S x i A Q)(h:aZ x (S.getD i [])∈A):KU n S x (i+1) A Q:=
 ⟨j.asc,j.gen,j.one,j.sub,j.mem,j.cl,λk a=>by
  by_cases e:k=i
  .rw[e];exact h
  .exact j.dn k om⟩
theorem KU.step {i:Nat}(j:KU n S x i A Q)(l: ∀g∈S,bJ n g)(hi:i<S.length)(h:aZ x (S.getD i [])∉A)(p:Plc A (aZ x (S.getD i [])) k):KU n S x (i+1) (My A k (aZ x (S.getD i []))) (Q++ [aZ x (S.getD i [])]):=by
 have m:=j.gen x j.mem;have d:fG n (· ∈S) (aZ x (S.getD i [])):=m.mul (bF hi);obtain⟨y,f⟩:=exI (aZ x (S.getD i []));rw[f] at d h p |-;refine⟨PN (λz a=>(j.gen z a).cF l) (d.cF l) j.asc p h,λz a=>?_,nI.2 (.inr j.one),λz a=>?_,nI.2 (.inr j.mem),λz a c=>?_,λq c=>?_⟩
 .rcases nI.1 a with rfl|a
  .exact d
  .exact j.gen z a
 .rcases Es.1 a with a|a
  .exact nI.2 (.inr (j.sub z a))
  .simp at a;exact nI.2 (.inl a)
 .rcases nI.1 a with rfl|a
  .exact absurd siM c
  .rcases j.cl z a (λh=>c (by simp [h])) with e|o
   .exact .inl e
   .exact .inr λg r=>nI.2 (.inr (o g r))
 .by_cases e:q=i
  .rw[e,f];exact nI.2 (.inl rfl)
  .exact nI.2 (.inr (j.dn q om))
theorem NW {A:List V}(a:k<=A.length)(z y:V):(((A++ [z]).take (k+1)++A.drop k).set k y)=A.take k++y::A.drop k:=by
 have c:(A++ [z]).take (k+1)=A.take k++ [(A++ [z]).getD k .undef]:=by
  rw[iW .undef (by rw[eE];simp;omega),List.take_append_of_le_length a]
 rw[c,AA,List.set_append_right _ _ (by rw[jG];omega),jG,Nat.min_eq_left a,Nat.sub_self]
 rfl
theorem jI.My {W:Nat->Prop}{c:List V}(p:jI W h c A)(q:PV W h v y)(i:k<=A.length):jI W h (c.take k++v::c.drop k) (Go.Proofs.YtoighkablmjfeaaGreat.My A k y):=by
 have j:=bH.length p
 have t:(k:Nat)->(c:List V)->(A:LN)->jI W h c A->jI W h (c.take k) (A.take k)/\jI W h (c.drop k) (A.drop k):=by
  intro k
  induction k with
  |zero=>intro c A p;exact⟨trivial,p⟩
  |succ k ih=>
   intro c A p
   cases c with
   |nil=>cases A with
    |nil=>exact⟨trivial,trivial⟩
    |cons=>exact p.elim
   |cons a c=>cases A with
    |nil=>exact p.elim
    |cons b A=>
     obtain⟨f,d⟩:=ih c A p.2
     exact⟨⟨p.1,f⟩,d⟩
 obtain⟨f,d⟩:=t k c A p;exact f.append ⟨q,d⟩
theorem Vj.own (t:Vj h v ws b)(m:0<ws.length):dF h v 1 ws b:=by
 obtain⟨id,d,a,rfl,i,f,j,c⟩:=t;refine .inr ⟨id,ws.length,d,a,rfl,(jP _).symm,?_,i,f,j⟩;rcases c with c|⟨rfl,l⟩
 .exact .inl c
 .have e:ws.length=1:=om
  exact .inr ⟨by rw[e],Zs om⟩
theorem DP {Q m:Nat}(a:k<=m):pV 1 (.sl Q 0 (m+1) (.un 1)) (some (aC k)) none none=some (.sl Q k (m+1-k) (.un 1)):=by
 simp only[pV,mQ];rw[aS ⟨om,om⟩];simp only[if_true,Mc];rw[aS om,Nat.zero_add,jP]
theorem aeW {Q m:Nat}(a:k<=m):pV 1 (.sl Q 0 (m+1) (.un 1)) (some (aC ((k:Int)+1))) none none=some (.sl Q (if k<m then k+1 else 0) (m-k) (.un 1)):=by
 simp only[pV,mQ];rw[aS ⟨om,om⟩];have e:((k:Int)+1).toNat=k+1:=om
 simp only[if_true,e]
 by_cases h:k<m
 .rw[aS om,aS h]
  simp only[Option.some.injEq,V.sl.injEq,true_and,and_true];omega
 .rw[aQ om,aQ h]
  simp only[Option.some.injEq,V.sl.injEq,true_and,and_true];omega
theorem aaD {Q:Nat}{z:V}(d:k<=ws.length)(c:h.get Q=cE (ws++ [z])):
  Nh h 1 (.sl Q (if k<ws.length then k+1 else 0) (ws.length-k) (.un 1)) (.sl Q k (ws.length+1-k) (.un 1))=some (aC (ws.length-k:Nat),h.set Q (cE ((ws++ [z]).take (k+1)++ws.drop k))):=by
 have e1:oU (.sl Q (if k<ws.length then k+1 else 0) (ws.length-k) (.un 1))=some (ws.length-k):=rfl
 have e2:oU (.sl Q k (ws.length+1-k) (.un 1))=some (ws.length+1-k):=rfl
 have i:min (ws.length+1-k) (ws.length-k)=ws.length-k:=om
 have l:h.row Q k (ws.length-k)=some (ws.drop k):=by
  unfold H.row;rw[c];show sub (ws++ [z]) k (ws.length-k)=_;unfold sub;rw[aS (by rw[eE];omega),List.drop_append_of_le_length d,List.take_left' (by rw[jR])]
 have f:h.put Q (if k<ws.length then k+1 else 0) (ws.drop k)=some (h.set Q (cE ((ws++ [z]).take (k+1)++ws.drop k))):=by
  unfold H.put;rw[c];show (putAt (ws++ [z]) _ (ws.drop k)).map _=_;unfold putAt;have a:(ws++ [z]).length=ws.length+1:=siM
  by_cases h:k<ws.length
  .rw[aS h,aS (by rw[a,jR];omega),jR,show (ws++ [z]).drop _= [] from List.drop_eq_nil_of_le (by rw[a];omega),qH];rfl
  .have e:k=ws.length:=om
   rw[aQ h,aS (by rw[a,jR];omega),e,List.drop_length,qH,qH];have j:(ws++ [z]).take (ws.length+1)=ws++ [z]:=Nb (by rw[a];omega);rw[j];simp
 simp only[Nh,e1,e2,i,jP,l,f]
structure ESt (h hh:H)(va vt:V)(A Q:LN):Prop where
 ex: ∃wa wt,Vj hh va wa h.next/\Vj hh vt wt h.next/\jI (λq=>fF va q\/fF vt q) hh wa A/\jI (λq=>fF va q\/fF vt q) hh wt Q
 uY: ∀q,fF va q-> ¬fF vt q
 fr:Fr h hh
theorem Py (mo n:Nat)(vl:V)(S:LN)(h:H)(n0:1<=n)(n5:n<=20)(l2:mo<=400)(hS: ∀g∈S,bJ n g)(hl:S.length<=4096)(a5: ∀A:LN,A.Nodup->(∀x∈A,fG n (· ∈S) x)->A.length<=mo)(hv:SP h vl S):
  Ev T 22 [aC n,vl,aC mo] h (λv h'=> ∃A,fW (fG n (· ∈S)) A/\A.length<=mo/\SP h' v A/\Fr h h'):=by
 have lv:=hv.lens
 rw[dO] at lv
 obtain⟨id,off,ws,sh,g1,j6,hc,e6⟩:=hv.open
 rw[dO] at sh g1 j6 hc
 refine lG ?_
 refine (HW n h om).mono ?_
 rintro v1 h1 ⟨s1,f1,l1⟩
 obtain⟨B,hB⟩:=exI h1.next
 obtain⟨G,e2,n2,g2,o2,f2⟩:=iI hB [v1]
 simp(disch:=omega)only[go_sem,dL _ (z:= .aH) (uF s1).1 (uF s1).2,hB,e2]
 refine (HW n G om).mono ?_
 rintro v3 h3 ⟨s3,f3,l3⟩
 obtain⟨C,hC⟩:=exI h3.next
 obtain⟨h4,e4,n4,g4,o4,f4⟩:=iI hC [v3]
 have k1:=f1.next
 have k3:=f3.next
 have F4:=((f1.trans f2).trans f3).trans f4
 have Z:{v:V}->{hh:H}->SI hh v (zi (bI n))->Fr hh h4->(∀id off len j7,v= .sl id off len j7->id≠B/\id≠C)->PV (λq=>fF (.sl B 0 1 (.kn 1)) q\/fF (.sl C 0 1 (.kn 1)) q) h4 v (bI n):=λ{v hh} s f g7=>by
  refine⟨s.mono f,?_⟩
  cases v with
  |sl i o m c=>
   have:=g7 _ _ _ _ rfl;rintro (⟨_,_,_,e⟩|⟨_,_,_,e⟩)
   .cases e;omega
   .cases e;omega
  |_=>trivial
 have c8:ESt h h4 (.sl B 0 1 (.kn 1)) (.sl C 0 1 (.kn 1)) [bI n] [bI n]:=by
  refine⟨⟨[v1], [v3],⟨B,_, [],rfl,om,om,by rw[o4 B om,f3.get B om];exact g2,.inr ⟨rfl,rfl⟩⟩,⟨C,_, [],rfl,om,om,g4,.inr ⟨rfl,rfl⟩⟩,jI.one (Z s1 ((f2.trans f3).trans f4) λi o m c e=>?_),jI.one (Z s3 f4 λi o m c e=>?_)⟩,λq ⟨_,_,_,e⟩ ⟨_,_,_,e2⟩=>by cases e;cases e2;omega,F4⟩
  .have:=SV.in s1 _ _ _ _ e;omega
  .have:=SV.in s3 _ _ _ _ e;have:=l3 _ _ _ _ e;omega
 simp(disch:=omega)only[go_sem,dL _ (z:= .aH) (uF s3).1 (uF s3).2,hC,e4]
 refine aP (λk' F hh=> ∃(A Q:LN) (d l:V),(∃g:Nat->V,F= [aC n,vl,aC mo,g 3,d,l,g 6,g 7,g 8,g 9,g 10,g 11,g 12,g 13,g 14])/\IA n S A Q/\ESt h hh d l A Q/\Q.length<=A.length/\k'=1000- 2*A.length+Q.length) _
  ⟨_,_,_,_,aD rfl,IA.start n S,c8,dN _,rfl⟩ ?_
 clear c8 Z g2 g4 o2 o4 e2 e4 s1 s3 l1 l3 F4 f1 f2 f3 f4 k1 k3 n2 n4 hB hC
 rintro k' F h5 ⟨A,Q,d,l,⟨g,rfl⟩,J,st,l0,rfl⟩
 have AP: ∀x∈A,bJ n x:=λx hx=>(J.gen x hx).cF hS
 have la:=a5 A (Eh J.asc (n:=n)) J.gen
 obtain⟨⟨u,wt,ta,tt,pa,pt⟩,uY,fr⟩:=st
 have a4:=bH.length pa
 have b7:=bH.length pt
 have a3:dD l=some (aC (Q.length:Int)):=by unfold dD;rw[SV.len tt.sv (n:=Q.length) om om];rfl
 by_cases w:(0:Int)<(Q.length:Int)
 case neg=>
  have d1:=bZ w;have e0:Q= []:=Zs om;refine eZ a3 d1 ?_;subst e0;exact⟨A,J.done,la,jI.sp' ta.sv pa,fr⟩
 have d1:=cV w
 obtain⟨m,hm⟩: ∃m,Q.length=m+1:=⟨Q.length- 1,om⟩
 have em:(Q.length:Int)- 1=(m:Int):=om
 obtain⟨_,l8,k5,c6,c4⟩:=jI.open tt.sv pt
 obtain⟨_,cx,px⟩:=c4 m om
 obtain⟨x,hx⟩:=exI (Q.getD m [])
 rw[hx] at px
 generalize wt.getD m .undef=vx at cx px
 obtain⟨O,c5,b8,L⟩:=tt.pop (k:=m) om
 have hQ:Q=Q.take m++ [x]:=by
  rw[<-hx,<-iW [] om,Nb om]
 have b5:jI (λq=>fF d q\/fF O q) h5 (wt.take m) (Q.take m):=by
  have t:(k:Nat)->(u:List V)->(A:LN)->jI (λq=>fF d q\/fF l q) h5 u A->jI (λq=>fF d q\/fF l q) h5 (u.take k) (A.take k):=by
   intro k
   induction k with
   |zero=>intro u A p;exact trivial
   |succ k ih=>
    intro u A p
    cases u with
    |nil=>cases A with
     |nil=>exact trivial
     |cons=>exact p.elim
    |cons a u=>cases A with
     |nil=>exact p.elim
     |cons b A=>exact⟨p.1,ih u A p.2⟩
  exact jI.mE (t m wt Q pt) λq _ hw=>hw.imp (λh=>h) (L q)
 have b9:ESt h h5 d O A (Q.take m):=⟨⟨u,wt.take m,ta,b8,jI.mE pa λq _ hw=>hw.imp (λh=>h) (L q),b5⟩,λq h1 G=>uY q h1 (L q G),fr⟩
 have c1:PV (λq=>fF d q\/fF O q) h5 vx x:=PV.mE px λq _ hw=>hw.imp (λh=>h) (L q)
 have J':KU n S x 0 A (Q.take m):=KU.start (by rw[<-hQ];exact J)
 have m2:(Q.take m).length=m:=by rw[jG];omega
 refine wE a3 d1 em @c6.ixa cx c5 ?_
 refine Bu (λvs hh=> ∃(r R:LN) (d l:V),(∃g:Nat->V,vs= [aC n,vl,aC mo,g 3,d,l,g 6,g 7,g 8,g 9,g 10,g 11,g 12,g 13,g 14])/\IA n S r R/\ESt h hh d l r R/\R.length<=r.length/\1000- 2*r.length+R.length<1000- 2*A.length+Q.length) ?_ ?_
 .refine aP (λk' F hh=> ∃(i:Nat) (r R:LN) (d l:V),(∃g:Nat->V,F= [aC n,vl,aC mo,g 3,d,l,vx,aC i,g 8,g 9,g 10,g 11,g 12,g 13,g 14])/\i<=S.length/\KU n S x i r R/\ESt h hh d l r R/\PV (λq=>fF d q\/fF l q) hh vx x/\R.length+A.length+1=r.length+Q.length/\A.length<=r.length/\k'=S.length-i) S.length
   ⟨0,A,Q.take m,d,O,aD rfl,fY _,J',b9,c1,om,dN _,rfl⟩ ?_
  clear b9 c1 J' b5 b8 L c5 uY fr pa pt ta tt a4 b7 a3 cx px c4 c6 O g
  rintro k' F h6 ⟨i,r,R,d,l,⟨g,rfl⟩,hi,J,st,px,c9,c0,rfl⟩
  have g6: ∀x∈r,bJ n x:=λx hx=>(J.gen x hx).cF hS
  have l6:=a5 r (Eh J.asc (n:=n)) J.gen
  by_cases d9:(i:Int)<(S.length:Int)
  case neg=>
   have d2:=bZ d9;obtain rfl:i=S.length:=om
   refine eZ lv d2 ?_;exact⟨r,R,d,l,aD rfl,J.done,st,om,om⟩
  have d2:=cV d9
  have a7:i<S.length:=om
  obtain⟨⟨u,wt,ta,tt,pa,pt⟩,uY,fr⟩:=st
  have a4:=bH.length pa
  have b7:=bH.length pt
  have cg:h6.cell id (off+i)=some (ws.getD i .undef):=by rw[fr.cell (g1 om),hc i a7]
  have sg:=(Oi e6 a7).mono fr
  have Gp:bJ n (S.getD i []):=hS _ (bF a7)
  generalize ws.getD i .undef=vg at cg sg
  have X:bJ n x:=g6 x J.mem
  refine jX lv d2 @sh.ixa cg ?_
  refine (Ud vx vg x _ h6 (by rw[X.len];omega) px.si sg (λj hj=>by rw[Gp.len];exact X.eJ (by rw[<-X.len];exact hj))).mono ?_
  rintro vy h7 ⟨sy,f7,l7⟩
  obtain⟨y,hy⟩:=exI (aZ x (S.getD i []))
  have Y:bJ n y:=by rw[<-hy];exact X.mul Gp
  rw[hy] at sy
  have c2:=ta.iU f7.next λq w=>f7.get q (ta.in w).2
  have e3:=tt.iU f7.next λq w=>f7.get q (tt.in w).2
  have f6:=jI.fx pa (Fx.of f7:Fx (λq=>fF d q\/fF l q) h6 h7)
  have j5:=jI.fx pt (Fx.of f7:Fx (λq=>fF d q\/fF l q) h6 h7)
  have j2:=PV.mono px f7
  have e5: ∀q,(fF d q\/fF l q)->q<h6.next:=λq w=>w.elim (λh=>(ta.in h).2) (λh=>(tt.in h).2)
  have i7:PV (λq=>fF d q\/fF l q) h7 vy y:=PV.fresh sy l7 e5
  refine aT ?_
  refine (Yr d vy n r y h7 om om g6 Y J.asc (jI.sp' c2.sv f6) sy).mono ?_
  rintro _ h8 ⟨k,rfl,pk,_,f8⟩
  have a6:=c2.iU f8.next λq w=>f8.get q (c2.in w).2
  have W:=e3.iU f8.next λq w=>f8.get q (e3.in w).2
  have f5:=jI.fx f6 (Fx.of f8:Fx (λq=>fF d q\/fF l q) h7 h8)
  have e8:=jI.fx j5 (Fx.of f8:Fx (λq=>fF d q\/fF l q) h7 h8)
  have g3:=PV.mono j2 f8
  have i9:=PV.mono i7 f8
  have c3:=(fr.trans f7).trans f8
  by_cases a2:y∈r
  .have d3:=cV a2
   refine bM d3 ?_
   rw[fJ i]
   exact⟨S.length-(i+1),om,i+1,r,R,d,l,aD rfl,om,J.skip (by rw[hy];exact a2),⟨⟨u,wt,a6,W,f5,e8⟩,uY,c3⟩,g3,c9,c0,rfl⟩
  have d3:=bZ a2
  have J2:=J.step hS a7 (by rw[hy];exact a2) (by rw[hy];exact pk)
  rw[hy] at J2
  have k0:=a5 _ (Eh J2.asc (n:=n)) J2.gen
  rw[xE] at k0
  have i0:dD d=some (aC (r.length:Int)):=by unfold dD;rw[SV.len a6.sv (n:=r.length) om om];rfl
  have i2:=a5 _ (Eh J2.asc (n:=n)) J2.gen
  rw[xE] at i2
  have d4:decide ((mo:Int)<=(r.length:Int))=false:=bZ om
  have l5:0<r.length:=PC J.one
  obtain⟨N,hN⟩:=exI h8.next
  obtain⟨h9,e9,n9,g9,o9,f9⟩:=iI hN [.aH]
  have i5:=(a6.own om).fr f9
  obtain⟨U,d8,b6⟩:=i5.push (bytes:=24) (SV.one om g9 (.kn 1)) (n:=r.length) (m:=1) om rfl om om om
  have m0:=b6.next
  rw[n9] at d8
  have hk:=pk.le
  have i6:U.get (N+1)=cE (u++ [.aH]):=by rw[<-n9];exact b6.get
  obtain⟨hb,i8,m3,d7⟩: ∃hb:H,H.mk U.tr (U.next+8)=hb/\hb.next=U.next+8/\ ∀q,hb.get q=U.get q:=⟨_,rfl,rfl,λ_=>rfl⟩
  have cp:=aaD (k:=k) om ((d7 (N+1)).trans i6)
  rw[a4] at cp
  obtain⟨g5,j3,l4,h0,i4⟩:=xN hb (N+1) ((u++ [V.aH]).take (k+1)++u.drop k)
  rw[j3] at cp
  have d5:decide ((k:Int)<0)=false:=bZ om
  have d6:decide (((r.length+1:Nat):Int)<=(k:Int))=false:=bZ om
  have k4:((u++ [V.aH]).take (k+1)++u.drop k).length=r.length+1:=by
   rw[eE,jG,eE,jR];simp;omega
  have c7:=bE (vs:=(u++ [V.aH]).take (k+1)++u.drop k) (off:=k) om g5 (N+1) vy
  rw[NW om] at c7
  obtain⟨a8,j0,l9,k2,j1⟩:=xN g5 (N+1) (u.take k++vy::u.drop k)
  rw[j0] at c7
  have a9:=uF sy
  have fT: ∀q,q<N-> ¬fF d q->a8.get q=h8.get q:=λq h1 G=>by
   rw[j1 q om,i4 q om,d7,b6.old q om (λi o m c e e2=>G ⟨o,m,c,e2▸e⟩),o9 q om]
  have k6:a8.next=N+10:=om
  have b4:=W.iU (h':=a8) om λq w=>fT q (by have:=(W.in w).2;omega) (λh=>uY q h w)
  obtain⟨P,hP⟩:=exI a8.next
  obtain⟨k8,i1,m5,j9,k7,b0⟩:=iI hP [vy]
  have f0:=b4.iU b0.next λq w=>b0.get q (b4.in w).2
  have m1:=c3.next
  obtain⟨g0,a1,g8,d0,a0,k9,m4,b3⟩:=f0.push (S:=P) (c:= .kn 1) (SV.one om j9 (.kn 1)) om om
  simp(disch:=omega)only[go_sem,d3,i0,d4,dL _ (z:= .aH) (v:= .aH) rfl rfl,hN,e9,d8,aeW hk,DP hk,i8,cp,d5,d6,h0,eH a9.1 a9.2,c7,dL _ (z:= .aH) a9.1 a9.2,hP,i1,g8]
  rw[fJ i]
  have e7: ∀q,fF l q->q<N:=λq w=>by have:=(W.in w).2;omega
  have K: ∀q,q<N-> ¬fF d q-> ¬fF l q->a1.get q=h8.get q:=λq h1 G h3=>by
   rw[a0 q om h3,b0.get q om];exact fT q h1 G
  have xx:Fx (λq=>fF d q\/fF l q) h8 a1:=⟨om,λq h1 G=>K q om (λh=>G (.inl h)) (λh=>G (.inr h))⟩
  have ww: ∀q,q<h8.next->(fF (.sl (N+1) 0 (r.length+1) (.un 1)) q\/fF g0 q)->fF d q\/fF l q:=λq h1 G=>by
   rcases G with ⟨_,_,_,e⟩|G
   .cases e;omega
   .rcases b3 q G with h3|h3
    .exact .inr h3
    .omega
  have i3:a1.get (N+1)=cE (u.take k++vy::u.drop k):=by
   rw[a0 (N+1) om (λh=>by have:=e7 _ h;omega),b0.get (N+1) om];exact k2
  have b2:PV (λq=>fF (.sl (N+1) 0 (r.length+1) (.un 1)) q\/fF g0 q) a1 vy y:=PV.go i9 xx ww
  have b1:=jI.My (jI.go f5 xx ww) b2 (k:=k) om
  have j8:(u.take k++vy::u.drop k).length=r.length+1:=by rw[bH.length b1,xE]
  refine⟨S.length-(i+1),om,i+1,_,_,_,_,aD rfl,om,J2,⟨⟨_,_,⟨N+1,_, [],by rw[j8],om,om,by rw[qH];exact i3,.inl rfl⟩,d0,b1,(jI.go e8 xx ww).append (jI.one b2)⟩,λq ⟨_,_,_,e⟩ G=>?_,⟨om,λq w=>?_⟩⟩,PV.go g3 xx ww,by rw[xE,eE];simp;omega,by rw[xE];omega,rfl⟩
  .cases e
   rcases b3 _ G with h3|h3
   .have:=e7 _ h3;omega
   .omega
  .rw[K q om (λh=>by have:=(a6.in h).1;omega) (λh=>by have:=(W.in h).1;omega)]
   exact c3.get q w
 clear b9 c1 J' b5 b8 L c5 uY fr pa pt ta tt a4 b7 a3 cx px c4 c6 O g
 rintro F h6 ⟨r,R,d,l,⟨g,rfl⟩,J,st,c0,j4⟩
 refine aT ?_
 exact⟨_,j4,r,R,d,l,aD rfl,J,st,c0,rfl⟩
end
section
variable {n i p:Nat} {G:List Nat->Prop} {o:List Nat} {r:LN}
structure CF (n:Nat)(G:List Nat->Prop)(i p:Nat)(o:List Nat)(r:LN):Prop where
 asc:o.Pairwise (· < ·)
 mem: ∀q,q∈o↔q<p/\ ∃x,G x/\Fix i x/\x.getD i 0=q
 len:r.length=o.length
 rep: ∀t,t<o.length->Hr n G i (o.getD t 0) (r.getD t [])
theorem CF.start (n:Nat)(G:List Nat->Prop)(i:Nat):CF n G i 0 [] []:=⟨.nil,λq=>by simp,rfl,λt h=>by cases h⟩
theorem CF.skip (c:CF n G i p o r)(h: ∀x,G x->Fix i x->x.getD i 0≠p):CF n G i (p+1) o r:=
 ⟨c.asc,λq=>by
  rw[c.mem];constructor
  .rintro⟨h1,a⟩;exact⟨om,a⟩
  .rintro⟨h1,x,gx,fx,ex⟩
   refine⟨?_,x,gx,fx,ex⟩;rcases Nat.lt_or_ge q p with a|a
   .exact a
   .exact absurd om (h x gx fx),c.len,c.rep⟩
theorem CF.step (c:CF n G i p o r){x:List Nat}(f:Hr n G i p x):CF n G i (p+1) (o++ [p]) (r++ [x]):=by
 refine⟨List.pairwise_append.2 ⟨c.asc,List.pairwise_singleton _ _,λa l b s=>?_⟩,λq=>?_,by rw[eE,eE,c.len];rfl,λt j=>?_⟩
 .rw[List.mem_singleton.1 s];exact ((c.mem a).1 l).1
 .rw[Es,c.mem,List.mem_singleton]
  constructor
  .rintro (⟨m,h⟩|rfl)
   .exact⟨om,h⟩
   .exact⟨om,x,f.mem,f.fix,f.maps⟩
  .rintro⟨m,h⟩
   rcases Nat.lt_or_ge q p with k|k
   .exact .inl ⟨k,h⟩
   .exact .inr om
 .by_cases e:t=o.length
  .subst e
   have e1:(o++ [p]).getD o.length 0=p:=by simp [List.getD]
   have e2:(r++ [x]).getD o.length []=x:=by rw[<-c.len];exact jS
   rw[e1,e2];exact f
  .have d:t<o.length:=by rw[eE] at j;simp at j;omega
   have e1:(o++ [p]).getD t 0=o.getD t 0:=by simp [List.getD,Aw d]
   rw[e1,lP (by rw[c.len];exact d)];exact c.rep t d
theorem CF.le (c:CF n G i p o r):o.length<=p:=by
 have nd:o.Nodup:=c.asc.imp λh=>om
 have:=List.Nodup.length_le_of_subset nd (l₂:=List.range p) λq a=>mS.2 ((c.mem q).1 a).1
 rwa [gT] at this
theorem MF {A:LN}(E:fW G A){k:Nat}(c:k<A.length)(l:Fix i (A.getD k []))(h2:(A.getD k []).getD i 0=p)(h3: ∀k',k'<k-> ¬((A.getD k' []).getD i 0=p/\Fix i (A.getD k' []))):Hr n G i p (A.getD k []):=by
 refine⟨pX E c,l,h2,λy q j f=>?_⟩;obtain⟨m,b,d⟩:=Bj.1 ((E.mem y).2 q);have a:A.getD m []=y:=by rw[gV,dJ b];exact d
 rcases Nat.lt_trichotomy m k with h|h|h
 .exact absurd ⟨by rw[a];exact f,by rw[a];exact j⟩ (h3 m h)
 .subst h;rw[a];exact .inl rfl
 .rw[<-a]
  have:=Iz.1 E.asc k m c b h;rw[gV,dJ c,gV,dJ b];exact .inr this
end
set_option maxHeartbeats 64000000
def Two (b:Nat)(vo vr:V)(q:Nat):Prop:=q<b\/fF vo q\/fF vr q
theorem Ma (vA:V)(n:Nat)(G:List Nat->Prop)(A:LN)(h:H)(h0:0<n)(hn:n<=20)(hG:oK n G)(E:fW G A)(hA:A.length<=5040)(sA:SP h vA A):
  Ev T 23 [aC n,vA] h (λv h'=> ∃O R',PD (λid=>id<h.next) h' v n O R'/\eD n G O R'/\Fr h h'):=by
 refine mV ?_
 obtain⟨c5,eA,f0,b8,wA,b2,cA⟩:=Il sA
 obtain⟨m,hm⟩:=exI A.length
 rw[hm] at c5 b2 cA
 obtain⟨B,hB⟩:=exI h.next
 have bl:mP [aC 0,.aH,.aH] [(0,1,aC n)]=some (.agg [aC n,.aH,.aH]):=by
  have e1:putAt [aC 0,.aH,.aH] 0 [aC n]=some [aC n,.aH,.aH]:=by simp [putAt]
  simp [mP,fP,e1,V.cells,V.one]
 obtain⟨ha,ea,na,ga,oa,fa⟩:=iI hB [aC 0,.aH,.aH]
 obtain⟨h1,e1,n1,g1,o1,k9⟩:=iI na [aC 0,.aH,.aH]
 obtain⟨l,e2,n2,g2,o2⟩:=xN h1 (B+1) [aC n,.aH,.aH]
 have f2:Fr h l:=⟨om,λq hq=>by rw[o2 q om,o1 q om,oa q om]⟩
 have i6:l.next=B+2:=om
 have e3:l.get B=some (.cells false [aC 0,.aH,.aH]):=by rw[o2 B om,o1 B om];exact ga
 simp(disch:=omega)only[go_sem,aV,hB,ea,na,e1,bl,lY h1 (B+1) 0 (v:= aC n) (u:= .aH) (w:= .aH) rfl rfl rfl,g1,jE,e2]
 refine aP (λU K f=> ∃(i:Nat) (W:Nat->Prop) (O:LN) (R':nZ) (vO Y:V) (d1 c0:List V),(∃g:Nat->V,K= [aC n,vA,.ptr B 0,.ptr (B+1) 0,aC i,g 5,g 6,g 7,g 8,g 9,g 10,g 11,g 12,g 13,g 14,g 15])/\i<=n/\xL h f (B+1) B W n O R' vO Y d1 c0/\
   f.get B=some (.cells false [aC 0,.aH,.aH])/\O.length=i/\R'.length=i/\(∀j,j<i->CF n G j n (O.getD j []) (R'.getD j []))/\U=n-i) n
  ⟨0,_, [], [],_,_,_,_,aD rfl,fY _,xL.start om om om om om f2 g2,e3,rfl,rfl,λj Z=>om,rfl⟩ ?_
 clear f2 g2 e3 n2 i6 o2 e2 g1 o1 e1 n1 k9 ga oa ea na fa
 rintro U K l ⟨i,W,O,R',vO,Y,d1,c0,⟨g,rfl⟩,hi,AC,gB,lO,lR,hC,rfl⟩
 by_cases d9:(i:Int)<(n:Int)
 case neg=>
  have e1:=bZ d9;obtain rfl:i=n:=om
  have hr:=bU AC.get;have nB:=AC.fr.next;refine nW e1 hr (lY l B 0 (v:= aC i) (u:=vO) (w:=Y) rfl (SV.cT AC.oO.sv).2.1 (SV.cT AC.oR.sv).2.1) gB @jE ?_;have g7:=bU (h:=l.set B (some (.cells false [aC i,vO,Y]))) (H.aJ ..);have fB:Fx (· =B) l (l.set B (some (.cells false [aC i,vO,Y]))):=Fx.set l (W:=(· =B)) rfl _;refine bM g7 ?_
  obtain⟨h3,d7⟩: ∃h3,h3=l.set B (some (.cells false [aC i,vO,Y])):=⟨_,rfl⟩
  rw[<-d7] at fB |-;have A3:=AC.box d7;refine⟨O,R',by rw[<-hB];exact A3.chw,⟨lO,lR,λj Z=>(hC j Z).asc,λj Z p=>?_,λj Z=>(hC j Z).len,λj Z=>(hC j Z).rep⟩,A3.fr⟩;rw[(hC j Z).mem];constructor
  .exact λh=>h.2
  .rintro⟨x,gx,fx,ex⟩
   exact⟨by rw[<-ex];exact (hG.cF gx).eJ Z,x,gx,fx,ex⟩
 have e1:=cV d9
 have k7:i<n:=om
 have l9:=sA.mono AC.fr
 refine bM e1 ?_
 obtain⟨h4,i3⟩:=exI l
 subst i3
 refine dG (λvs f=> ∃(F t:V) (q:List Nat) (r:LN),(∃g:Nat->V,vs= [aC n,vA,.ptr B 0,.ptr (B+1) 0,aC i,F,t,g 7,g 8,g 9,g 10,g 11,g 12,g 13,g 14,g 15])/\PV W f F q/\PL W f t r/\CF n G i n q r/\Fr l f) ?_ ?_
 .refine aP (λU vs f=> ∃(p:Nat) (F t:V) (ws:List V) (q:List Nat) (r:LN),(∃g:Nat->V,vs= [aC n,vA,.ptr B 0,.ptr (B+1) 0,aC i,F,t,aC p,g 8,g 9,g 10,g 11,g 12,g 13,g 14,g 15])/\p<=n/\dF f F 1 (ints (zi q)) l.next/\dF f t 1 ws l.next/\jI (Two l.next F t) f ws r/\(∀x,fF F x-> ¬fF t x)/\CF n G i p q r/\Fr l f/\U=n-p) n
   ⟨0,.aH,.aH, [], [], [],aD rfl,fY _,dF.aH _ _ _,dF.aH _ _ _,trivial,(λ_ ⟨_,_,_,e⟩=>by cases e),CF.start n G i,Fr.refl _,rfl⟩ ?_
  rintro U K J ⟨p,F,t,ws,q,r,⟨g,rfl⟩,hp,oo,ow,a0,uY,cp,f5,rfl⟩
  by_cases b9:(p:Int)<(n:Int)
  case neg=>
   have d2:=bZ b9;obtain rfl:p=n:=om
   refine bM d2 ?_;refine⟨F,t,q,r,aD rfl,⟨oo.sv,?_⟩,⟨ws,ow.sv,?_,a0.mE (λid _ h=> .inl (AC.wb id h)),dF.RO ow⟩,cp,f5⟩
   .cases F with
    |sl id s m c=>exact λh=>by have:=(oo.in _ _ _ _ rfl).2.1;have:=AC.wb id h;omega
    |_=>trivial
   .cases t with
    |sl id s m c=>exact λh=>by have:=(ow.in _ _ _ _ rfl).2.1;have:=AC.wb id h;omega
    |_=>trivial
  have d2:=cV b9
  have l7:p<n:=om
  refine bM d2 ?_
  refine Bu (λvs f=> ∃(F t:V) (ws:List V) (q:List Nat) (r:LN),(∃g:Nat->V,vs= [aC n,vA,.ptr B 0,.ptr (B+1) 0,aC i,F,t,aC p,g 8,g 9,g 10,g 11,g 12,g 13,g 14,g 15])/\dF f F 1 (ints (zi q)) l.next/\dF f t 1 ws l.next/\jI (Two l.next F t) f ws r/\(∀x,fF F x-> ¬fF t x)/\CF n G i (p+1) q r/\Fr l f) ?_ ?_
  .refine aP (λU vs f=> ∃(k:Nat),(∃g:Nat->V,vs= [aC n,vA,.ptr B 0,.ptr (B+1) 0,aC i,F,t,aC p,aC k,g 9,g 10,g 11,g 12,g 13,g 14,g 15])/\k<=m/\(∀U,U<k-> ¬((A.getD U []).getD i 0=p/\Fix i (A.getD U [])))/\dF f F 1 (ints (zi q)) l.next/\dF f t 1 ws l.next/\jI (Two l.next F t) f ws r/\Fr l f/\U=m-k) m
    ⟨0,aD rfl,fY _,λU h=>om,oo,ow,a0,f5,rfl⟩ ?_
   clear oo ow a0 f5
   rintro U K h6 ⟨k,⟨g',rfl⟩,L,c1,oo,ow,a0,f6,rfl⟩
   by_cases d5:(k:Int)<(m:Int)
   case neg=>
    have d3:=bZ d5;obtain rfl:k=m:=om
    refine eZ c5 d3 ?_;refine⟨F,t,ws,q,r,aD rfl,oo,ow,a0,uY,cp.skip λx gx fx ex=>?_,f6⟩;obtain⟨j,Z,ej⟩:=Bj.1 ((E.mem x).2 gx);have e9:A.getD j []=x:=by rw[gV,dJ Z];exact ej
    exact c1 j om ⟨by rw[e9];exact ex,by rw[e9];exact fx⟩
   have d3:=cV d5
   have i7:k<m:=om
   obtain⟨bA,c6,sx⟩:=cA k i7
   have F6:=AC.fr.trans f6
   generalize wA.getD k V.undef=vx at c6 sx
   have X:=jZ hG E (show k<A.length by omega)
   obtain⟨x,hx⟩:=exI (A.getD k [])
   rw[hx] at sx X
   have cx:h6.cell f0 (b8+k)=some vx:=by rw[F6.cell bA];exact c6
   obtain⟨idx,f3,c2,f4,c9⟩:=(sx.mono F6).open
   have g4:(zi x).length=n:=by rw[bD,X.len]
   rw[g4] at c2 f4 c9
   have d8: ∀j,j<n->h6.cell idx (f3+j)=some (aC (x.getD j 0:Nat)):=λj Z=>by
    rw[c9 j Z];congr 2;simp [zi,X.len,Z]
   refine wE c5 d3 @b2.ixa cx @c2.ixa (d8 i k7) ?_
   refine dG (λvs f=>f=h6/\ ∃b:Bool,(∃g:Nat->V,vs= [aC n,vA,.ptr B 0,.ptr (B+1) 0,aC i,F,t,aC p,aC k,.bool b,g 10,g 11,g 12,g 13,g 14,g 15])/\(b=true↔x.getD i 0=p/\Fix i x)) ?_ ?_
   .refine aP (λU vs f=>f=h6/\ ∃(j:Nat) (b:Bool),(∃g:Nat->V,vs= [aC n,vA,.ptr B 0,.ptr (B+1) 0,aC i,F,t,aC p,aC k,.bool b,aC j,g 11,g 12,g 13,g 14,g 15])/\j<=i/\(b=true↔x.getD i 0=p/\Fix j x)/\U=i-j) i
     ⟨rfl,0,_,aD rfl,fY _,by rw[xF];exact⟨λh=>⟨om,λj Z=>om⟩,λh=>by rw[h.1]⟩,rfl⟩ ?_
    rintro U K f ⟨rfl,j,b,⟨g,rfl⟩,Z,hb,rfl⟩
    cases b with
    |false=>
     refine bM @abL ?_;refine⟨false,aD rfl,⟨λh=>(by cases h),λh=>?_⟩⟩;exact hb.2 ⟨h.1,λj' k8=>h.2 j' om⟩
    |true=>
     have b1:=hb.1 rfl
     by_cases e8:(j:Int)<(i:Int)
     .have d4:=cV e8
      simp(disch:=omega)only[go_sem,d4,b2.ixa,cx,c2.ixa,d8 j om];rw[fJ j];refine⟨i-(j+1),om,j+1,_,aD rfl,om,?_,rfl⟩;rw[xF];constructor
      .intro h
       refine⟨b1.1,λj' k8=>?_⟩
       by_cases e:j'=j
       .subst e;omega
       .exact b1.2 j' om
      .intro h
       rw[h.2 j om]
     .have d4:=bZ e8
      obtain rfl:j=i:=om
      refine bM d4 ?_;exact⟨true,aD rfl,hb⟩
   rintro K f ⟨rfl,b,⟨g,rfl⟩,hb⟩
   cases b with
   |false=>
    refine aT ?_;rw[fJ k];refine⟨m-(k+1),om,k+1,aD rfl,om,λU l2 h=>?_,oo,ow,a0,f6,rfl⟩
    by_cases e:U=k
    .rw[e,hx] at h
     have:=hb.2 h;cases this
    .exact c1 U om h
   |true=>
    have b1:=hb.1 rfl;have rep:=MF (n:=n) E (show k<A.length by omega) (by rw[hx];exact b1.2) (by rw[hx];exact b1.1) c1;rw[hx] at rep;refine iG @b2.ixa cx @Fp ?_
    obtain⟨hd,a8⟩: ∃hd:H,hd=H.mk ((H.mk f.tr (f.next+2)).new (Ob.cells false (ints [(p:Int)]))).tr (f.next+14):=⟨_,rfl⟩
    rw[<-a8];obtain⟨Q,hQ⟩:=exI (f.next+2);rw[hQ] at a8 |-;have gd:hd.get Q=some (.cells false (ints [(p:Int)])):=by rw[a8];exact H.aI (H.mk f.tr Q) _
    have od: ∀k,k≠Q->hd.get k=f.get k:=λk L=>by rw[a8];exact H.bG (H.mk f.tr Q) L _
    have nd:hd.next=f.next+14:=by rw[a8]
    have fd:Fr f hd:=⟨om,λk L=>od k om⟩
    have n6:=f6.next;have l8:=cp.le;have j9:=oo.fr fd;have i1:=ow.fr fd;have e4:=λid s m c (e:F=V.sl id s m c)=>oo.in id s m c e
    have a1:=λid s m c (e:t=V.sl id s m c)=>ow.in id s m c e
    obtain⟨h7,a7,p7⟩:=j9.push (bytes:=8) (SV.one (v:= aC p) (id:=Q) om gd (.kn 1)) (n:=q.length) (m:=1) (by rw[aE,bD,jP]) rfl om om om;have n7:=p7.next;have b6: ∀k,k<f.next->cW F k->h7.get k=f.get k:=λk h1 l=>by rw[p7.old k om l,od k om]
    have g0: ∀k,k<l.next->cW F k:=λk L id s m c e e2=>by have:=e4 _ _ _ _ e;omega
    have F7:Fr l h7:=⟨om,λk L=>by rw[b6 k om (g0 k L)];exact f6.get k L⟩
    have d6:=AC.fr.trans F7;have j7:h7.cell f0 (b8+k)=some vx:=by rw[d6.cell bA];exact c6
    have i4:=sx.dS;have j6:dF h7 t 1 ws l.next:=i1.mono om λid s m c e _ b0=>p7.old id om λj4 b5 m' c' e' e2=>uY id ⟨b5,m',c',by rw[e2];exact e'⟩ ⟨s,m,c,e⟩
    refine iG a7 j7 i4 ?_;refine (ajA vx (zi x) h7 (sx.mono d6) (by rw[g4];omega)).mono ?_;rintro P h8 ⟨a4,f8,_⟩;have c8:=uF (show SI h8 P (zi x) from a4.sv);have n8:=f8.next;simp(disch:=omega)only[go_sem,dL _ (z:= .aH) c8.1 c8.2]
    obtain⟨he,a6⟩: ∃he:H,he=H.mk ((H.mk h8.tr (f.next+10)).new (Ob.cells false [P])).tr h8.next:=⟨_,rfl⟩
    rw[<-a6];obtain⟨S,hS⟩:=exI (f.next+10);rw[hS] at a6 |-;have ge:he.get S=some (.cells false [P]):=by rw[a6];exact H.aI (H.mk h8.tr S) _
    have oe: ∀k,k≠S->he.get k=h8.get k:=λk L=>by rw[a6];exact H.bG (H.mk h8.tr S) L _
    have ne:he.next=h8.next:=by rw[a6]
    have b7:=λid s m c (e:P=V.sl id s m c)=>a4.in id s m c e
    have k3:dF he t 1 ws l.next:=j6.mono om λid s m c e h1 b0=>by
     have:=(a1 _ _ _ _ e).1;rw[oe id om,f8.get id b0]
    have e5:=bH.length a0;obtain⟨h9,a9,p9⟩:=k3.push (bytes:=24) (SV.one (v:=P) (id:=S) om ge (.kn 1)) (n:=q.length) (m:=1) (by rw[e5,cp.len,jP]) rfl om om om;have n9:=p9.next;refine bM a9 ?_;have c4:{v:V}->{k:Nat}->¬fF v k->cW v k:=λL id s m c e e2=>L ⟨s,m,c,by rw[e2];exact e⟩
    have R: ∀k,k<f.next->cW F k->cW t k->h9.get k=f.get k:=λk h1 l h3=>by rw[p9.old k om h3,oe k om,f8.get k om,b6 k h1 l]
    have i5: ∀k,k<l.next->cW t k:=λk L id s m c e e2=>by have:=a1 _ _ _ _ e;omega
    have fx:Fx (Two l.next F t) f h9:=⟨om,λk h1 l=>R k h1 (c4 λh=>l (.inr (.inl h))) (c4 λh=>l (.inr (.inr h)))⟩
    have hw: ∀k,k<f.next->Two l.next (.sl hd.next 0 (q.length+1) (.un 1)) (.sl he.next 0 (q.length+1) (.un 1)) k->Two l.next F t k:=λk h1 l=>by
     rcases l with h|⟨_,_,_,e⟩|⟨_,_,_,e⟩
     .exact .inl h
     .cases e;omega
     .cases e;omega
    have g3:PV (Two l.next (.sl hd.next 0 (q.length+1) (.un 1)) (.sl he.next 0 (q.length+1) (.un 1))) h9 P x:=by
     have s8:SI h8 P (zi x):=a4.sv;refine⟨SV.fx (W:=λk=>k=S\/fF t k) s8 ?_ ⟨om,λk h1 l=>by rw[p9.old k om (c4 λh=>l (.inr h)),oe k λe=>l (.inl e)]⟩,?_⟩
     .cases P with
      |sl id s m c=>
       have h3:=b7 _ _ _ _ rfl;rintro (e|⟨_,_,_,e⟩)
       .omega
       .have:=a1 _ _ _ _ e;omega
      |_=>trivial
     .cases P with
      |sl id s m c=>
       have h3:=b7 _ _ _ _ rfl;rintro (e|⟨_,_,_,e⟩|⟨_,_,_,e⟩)
       .omega
       .cases e;omega
       .cases e;omega
      |_=>trivial
    have o7:=p7.own (b:=l.next) (by rw[aE,bD,jP]) rfl om;have e7:ints (zi q)++ [aC p]=ints (zi (q++ [p])):=by rw[Im,fQ];rfl
    rw[e7] at o7;refine⟨_,_,ws++ [P],q++ [p],r++ [x],aD rfl,o7.mono om λid s m c e _ h1=>by cases e;rw[p9.old _ om (λid s m c e e2=>by have:=a1 _ _ _ _ e;omega),oe _ om,f8.get _ om],p9.own (by rw[e5,cp.len,jP]) rfl om,(jI.go a0 fx hw).append (jI.one g3),λk ⟨_,_,_,e1⟩ ⟨_,_,_,e2⟩=>by have a:=(V.sl.inj e1).1;have b:=(V.sl.inj e2).1;omega,cp.step rep,⟨om,λk L=>by rw[R k om (g0 k L) (i5 k L)];exact f6.get k L⟩⟩
  rintro K h6 ⟨j1,i9,k6,q',r',⟨g',rfl⟩,i0,i2,f1,d0,k0,f6⟩
  refine aT ?_
  rw[fJ p]
  exact⟨n-(p+1),om,p+1,j1,i9,k6,q',r',aD rfl,om,i0,i2,f1,d0,k0,f6,rfl⟩
 rintro K J ⟨F,t,q,r,⟨g,rfl⟩,f7,pl,l0,f5⟩
 have N:=AC.mono f5
 have wo:F.cells= [F]/\F.one=true:=f7.fX
 have j0:J.get B=some (.cells false [aC 0,.aH,.aH]):=by rw[f5.get B (AC.wb B AC.d)];exact gB
 have cO:J.cell (B+1) 1=some vO:=by rw[H.cell_of N.get];rfl
 have cR:J.cell (B+1) 2=some Y:=by rw[H.cell_of N.get];rfl
 obtain⟨ws,c7,g5,k5,j2⟩:=pl
 have pl:PL W J t r:=⟨ws,c7,g5,k5,j2⟩
 have l3:=N.fr.next
 have f9:=N.wb _ N.c
 simp(disch:=omega)only[go_sem,cO,cR,dL _ (z:= .aH) (v:=F) wo.1 wo.2]
 obtain⟨h6,b3⟩: ∃h6:H,h6=H.mk ((H.mk J.tr (J.next+3)).new (Ob.cells false [F])).tr (J.next+14):=⟨_,rfl⟩
 rw[<-b3]
 have g6:h6.get (J.next+3)=some (.cells false [F]):=by rw[b3];exact H.aI (H.mk J.tr (J.next+3)) _
 have n6:h6.next=J.next+14:=by rw[b3]
 have o6: ∀k,k≠J.next+3->h6.get k=J.get k:=λk L=>by rw[b3];exact H.bG (H.mk J.tr (J.next+3)) (by simpa using L) _
 have f6:Fr J h6:=⟨om,λid b0=>o6 id om⟩
 have l6:=bH.length N.aO
 have l4:=bH.length N.aR
 obtain⟨h7,a7,p7⟩:=(N.oO.fr f6).push (bytes:=24) (SV.one om g6 (.kn 1)) (n:=i) (m:=1) om rfl om om om
 have n7:=p7.next
 have a3: ∀k,k<J.next->cW vO k->h7.get k=J.get k:=λk h1 l=>by rw[p7.old k om l,o6 k om]
 have i8:h7.cell (B+1) 2=some Y:=by unfold H.cell;rw[a3 (B+1) f9 N.pO,N.get];rfl
 have eR:dS Y Y=true:=N.oR.sv.dS
 have e6:t.cells= [t]/\t.one=true:=⟨(SV.cT c7).1,(SV.cT c7).2.1⟩
 simp(disch:=omega)only[go_sem,a7,i8,eR,dL _ (z:= .aH) e6.1 e6.2]
 obtain⟨h8,b4⟩: ∃h8:H,h8=H.mk ((H.mk h7.tr (J.next+8)).new (Ob.cells false [t])).tr h7.next:=⟨_,rfl⟩
 rw[<-b4]
 have g8:h8.get (J.next+8)=some (.cells false [t]):=by rw[b4];exact H.aI (H.mk h7.tr (J.next+8)) _
 have n8:h8.next=h7.next:=by rw[b4]
 have o8: ∀k,k≠J.next+8->h8.get k=h7.get k:=λk L=>by rw[b4];exact H.bG (H.mk h7.tr (J.next+8)) (by simpa using L) _
 have g9:dF h8 Y 1 c0 h.next:=N.oR.mono om λid s m c e _ b0=>by
  rw[o8 id om,a3 id b0 (λj4 b5 n' c' e' e2=>N.uY _ _ _ _ e' _ _ _ _ e e2.symm)]
 obtain⟨h9,a9,p9⟩:=g9.push (bytes:=24) (SV.one om g8 (.kn 1)) (n:=i) (m:=1) om rfl om om om
 have n9:=p9.next
 have k4: ∀k,J.next<=k->cW Y k:=λk L id s m c e e2=>by have:=(N.oR.in _ _ _ _ e).1;omega
 have R: ∀k,k<J.next->cW vO k->cW Y k->h9.get k=J.get k:=λk h1 l h3=>by rw[p9.old k om h3,o8 k om,a3 k h1 l]
 have j3:h9.get (B+1)=some (.cells false [aC n,vO,Y]):=by rw[R _ f9 N.pO N.pR];exact N.get
 have l1:(f:H)->(x:V)->dY (some (.cells false [aC n,vO,Y])) f (B+1) 1 [x]=some (f.set (B+1) (some (.cells false [aC n,x,Y]))):=λf x=>bE siM f _ x
 have j8:(f:H)->(x y:V)->dY (some (.cells false [aC n,x,Y])) f (B+1) 2 [y]=some (f.set (B+1) (some (.cells false [aC n,x,y]))):=λf x y=>bE siM f _ y
 refine jX a9 j3 l1 j8 ?_
 rw[fJ i]
 obtain⟨ha,hb⟩:h6.next=J.next+14/\h8.next=J.next+15:=⟨n6,om⟩
 rw[ha,hb]
 obtain⟨a5,a2⟩: ∃a5,a5=(h9.set (B+1) (some (.cells false [aC n,.sl (J.next+14) 0 (i+1) (.un 1),Y]))).set (B+1) (some (.cells false [aC n,.sl (J.next+14) 0 (i+1) (.un 1),.sl (J.next+15) 0 (i+1) (.un 1)])):=⟨_,rfl⟩
 rw[<-a2]
 have c3: ∀k,k≠B+1->a5.get k=h9.get k:=λk L=>by rw[a2,H.Cj _ L,H.Cj _ L]
 have l5:a5.next=J.next+16:=by rw[a2];show h9.next=_;omega
 have j5:=N.step (v4:=F) (v5:=t) (o:=q) (r:=r) (h6:=a5) (a:=J.next+14) (b:=J.next+15) (k1:=i+1) (k2:=i+1) f7 pl om om om om om om om (by rw[a2,H.aJ])
  (by rw[c3 _ om,p9.old _ om (k4 _ om),o8 _ om,<-ha];exact p7.get) (by rw[c3 _ om,<-hb];exact p9.get) (λk h1 l h3 h4=>by rw[c3 k l];exact R k h1 h3 h4)
 refine⟨n-(i+1),om,i+1,_,_,_,_,_,_,_,aD rfl,om,j5,?_,by rw[eE,lO];rfl,by rw[eE,lR];rfl,λj Z=>?_,rfl⟩
 .rw[R B (N.wb B N.d) N.qO N.qR];exact j0
 .by_cases e:j=i
  .subst e
   have e1:(O++ [q]).getD j []=q:=by rw[<-lO];exact jS
   have e2:(R'++ [r]).getD j []=r:=by rw[<-lR];exact jS
   rw[e1,e2]
   exact l0
  .rw[lP om,lP om]
   exact hC j om
set_option maxHeartbeats 32000000
def T3:LN:= [[1,2,0], [1,0,2]]
theorem Lq:fW (fG 3 (· ∈T3)) L3:=abT.amU (ws:= [[], [0,1], [1], [0], [0,0], [1,0]]) (by decide+kernel)
theorem UW: ∀g∈T3,bJ 3 g:=λg a=>XG ((show ∀g∈T3,Wm 3 g=true by decide+kernel) g a)
theorem aaS {G:List Nat->Prop}{L:LN}(E:fW G L){A:LN}(nd:A.Nodup)(h: ∀x∈A,G x):A.length<=L.length:=List.Nodup.length_le_of_subset nd λx a=>(E.mem x).2 (h x a)
theorem aaB {n:Nat}{G:List Nat->Prop}{O:LN}{R:nZ}{A:LN}(d:oK n G)(a:eD n G O R)(b:fW G A)(c:A.length<=5040):NJ O n 0<=5040:=by
 have e:=dV d a;rw[<-e.2,e.1.uniq b];exact c
theorem Yz (h:H):Ev T 27 [] h (λv h'=> ∃O R,GC (λid=>id<h.next) h' v 3 O R (fG 3 (· ∈T3))/\Fr h h'):=by
 refine mV ?_;obtain⟨B,K⟩:=exI h.next;obtain⟨r,e1,J,g1,o1,f1⟩:=iI K [aC 0,.aH,.aH];obtain⟨k,e2,L,U,f2⟩:=EZ J [1,2,0];obtain⟨h3,e3,n,s3,G⟩:=EZ L [1,0,2];obtain⟨o,e4,n4,g4,o4,F⟩:=iI n [.sl (B+1) 0 3 (.kn 3),.sl (B+1+1) 0 3 (.kn 3)];have j:=(f2.trans G).trans F;have l:SP o (.sl (B+1+1+1) 0 2 (.kn 2)) T3:=SP.two (a:= [1,2,0]) (b:= [1,0,2]) (h:=h3) (U.mono G) s3 om F g4 _;simp(disch:=omega)only[go_sem,aV,K,e1,J,Ta,e2,L,e3,n,agY _ (pG ..) (pG ..),e4];refine (Py 10 3 _ T3 o om om om UW deC (λA nd hA=>kQ (aaS Lq nd hA) deC) l).mono ?_;rintro Q d ⟨A,m,lA,W,t⟩;refine aT ?_;refine (Ma Q 3 _ A d om om (fG.kT UW) m om W).mono ?_;rintro vc i ⟨O,R,cw,f,z⟩
 have y:GC (λid=>id<d.next) i vc 3 O R (fG 3 (· ∈T3)):=⟨cw,f,fG.kT UW,om,om,aaB (fG.kT UW) f m om,420,om,om,λx hx=>Zo (hx.cF UW) om⟩
 obtain⟨u,w,rfl,a,b,_,_⟩:=y.sl;have c:=(j.trans t).trans z;have n5:=(j.trans t).next
 have n6:=z.next;have N:i.get B=cE [aC 0,.aH,.aH]:=by rw[c.get B om];exact g1
 obtain⟨Y,P,n7,Z,s⟩:=xN i B [aC (3:Nat),u,w];refine nW (lY i B 0 (v:= aC (3:Nat)) (u:=u) (w:=w) rfl a b) N @jE P (bU Z) ?_;exact⟨O,R,y.go (⟨om,λid r k=>s id (by show id≠B;have: ¬id<d.next:=k;omega)⟩:Fx (λid=>id<d.next) i Y) (λid r k=>by show id<d.next;omega),⟨om,λq hq=>by rw[s q om,c.get q om,o1 q om]⟩⟩
theorem alG (h:H):Ev T 28 [] h (λv h'=> ∃O R,GC (λid=>id<h.next) h' v 4 O R (fG 4 (· ∈C4))/\Fr h h'):=by
 refine mV ?_;obtain⟨B,J⟩:=exI h.next;obtain⟨o,e1,G,g1,o1,f1⟩:=iI J [aC 0,.aH,.aH];obtain⟨k,e2,K,Q,f2⟩:=EZ G [1,2,3,0];obtain⟨n,e4,n4,g4,o4,F⟩:=iI K [.sl (B+1) 0 4 (.kn 4)];have j:=f2.trans F;have l:SP n (.sl (B+1+1) 0 1 (.kn 1)) C4:=SP.amI (a:= [1,2,3,0]) (h:=k) Q om F g4 _;simp(disch:=omega)only[go_sem,aV,J,e1,G,agX,e2,K,dL _ (z:= .aH) (v:= .sl (B+1) 0 4 (.kn 4)) rfl rfl,e4];refine (Py 10 4 _ C4 n om om om VM deC (λA nd Z=>kQ (aaS YX nd Z) deC) l).mono ?_;rintro P d ⟨A,m,lA,U,s⟩;refine aT ?_;refine (Ma P 4 _ A d om om (fG.kT VM) m om U).mono ?_;rintro vc i ⟨O,R,cw,f,y⟩
 have t:GC (λid=>id<d.next) i vc 4 O R (fG 4 (· ∈C4)):=⟨cw,f,fG.kT VM,om,om,aaB (fG.kT VM) f m om,420,om,om,λx hx=>Zo (hx.cF VM) om⟩
 obtain⟨u,w,rfl,a,b,_,_⟩:=t.sl;have c:=(j.trans s).trans y;have n5:=(j.trans s).next
 have n6:=y.next;have L:i.get B=cE [aC 0,.aH,.aH]:=by rw[c.get B om];exact g1
 obtain⟨W,N,n7,Y,r⟩:=xN i B [aC (4:Nat),u,w];refine nW (lY i B 0 (v:= aC (4:Nat)) (u:=u) (w:=w) rfl a b) L @jE N (bU Y) ?_;exact⟨O,R,t.go (⟨om,λid o k=>r id (by show id≠B;have: ¬id<d.next:=k;omega)⟩:Fx (λid=>id<d.next) i W) (λid o k=>by show id<d.next;omega),⟨om,λq hq=>by rw[r q om,c.get q om,o1 q om]⟩⟩
set_option maxHeartbeats 16000000
theorem TM (h:H){v u w:V}(b:v.cells= [v]/\v.one=true)(c:u.cells= [u]/\u.one=true)(a:w.cells= [w]/\w.one=true):lU h 1 [.aH] 3 [(0,1,v),(1,1,u),(2,1,w)]=some (.sl h.next 0 3 (.kn 3),h.new (.cells false [v,u,w])):=by
 have e:cJ [V.aH] 3= [.aH,.aH,.aH]:=rfl;simp [lU,fP,e,putAt,b.1,b.2,c.1,c.2,a.1,a.2]
set_option maxHeartbeats 32000000
theorem Qs: ∀x y:List Int,jQ x y<=0->jQ y x<=0->x=y
 | [], [],_,_=>rfl
 | [],_::_,_,h=>absurd h (by unfold jQ;decide)
 |_::_, [],h,_=>absurd h (by unfold jQ;decide)
 |a::l,b::m,h,k=>by
  unfold jQ at h k
  by_cases c:a<b
  .rw[aQ (show ¬b<a by omega),aS c] at k;exact absurd k deC
  .rw[aQ c] at h
   by_cases d:b<a
   .rw[aS d] at h;exact absurd h deC
   .rw[aQ d] at h
    rw[aQ d,aQ c] at k;rw[show a=b by omega,Qs l m h k]
theorem Wl {l m:List (List Int)}(p:l.Perm m)(c:l.Pairwise Nq)(h2:m.Pairwise Nq):l=m:=p.eq_of_pairwise (λ_ _ _ _ a b=>Qs _ _ a b) c h2
section
variable {n:Nat} {G:List Nat->Prop} {L:LN} {K:List Nat} {t:Tb} {X:Nat->List Nat->Int}
noncomputable def CO (G:List Nat->Prop)(L:LN)(K:List Nat)(t:Tb)(X:Nat->List Nat->Int)(a:Nat):List Int:=Ln.eN K.length (wK G L K t X a)
theorem Xv {N:Nat->Prop}(z:V)(O:LN)(R:nZ)(h:H)(b:GC N h z n O R G)(s:cK O R n 0 (bI n)=L)(f:vU n G L K)(C:DB n G L t K.length X):
  Ev T 16 [z] h (λv h'=> ∃u l,v= .tup [u,aC 0]/\l.Perm ((List.range K.length).map (CO G L K t X))/\l.Pairwise Nq/\SR h' u l/\Fr h h'):=by
 have o:=b
 obtain⟨i,j,rfl,Y,sR⟩:=b.ch
 have c:i.one=true:=NB Y
 have d:j.one=true:=KY sR
 have y:=b.kT
 obtain⟨E,ll⟩:=dV b.kT b.isc
 have l5:=kF b
 rw[s] at E ll
 have k0:=(sV y E f).1
 have k:=C.k12
 have p1:=vW C
 have x:=C.p100
 have hp:fD (t.p:Int)=true:=by
  unfold fD;rw[C.pr,cV (show (t.p:Int)<10000 by omega)];rfl
 have CW:=chW y E f C
 obtain⟨B,F⟩:=exI h.next
 obtain⟨h1,e1,n1,g1,o1,a⟩:=iI F [aC n,i,j]
 have P:=dH h (v:= aC n) (u:=i) (w:=j) rfl c d
 refine Nk P F e1 (bU g1) ?_
 refine (Wu _ n O R G h1 (o.mono a) L s K f om t X C C.e120).mono ?_
 rintro _ Q ⟨D,M,rfl,m,hD,hM,dx⟩
 refine aT ?_
 refine bV (λhc=>(hc rfl).elim) (λ_=>?_)
 refine aT ?_
 refine (Kj f k0 k om ⟨om,om⟩ hp CW D M Q dx).mono ?_
 rintro U h3 ⟨J,r,W,sc,a0,A⟩
 refine aT ?_
 rw[Cx,List.filter_eq_self.2 λ_ _=>rfl] at r
 exact⟨U,J,rfl,r,W,sc,⟨by have:=a.next;have:=m.next;have:=A.next;omega,λq Z=>by
  rw[A.get q (by have:=a.next;have:=m.next;omega) (by show q≠M;have:=a.next;omega),m.get q (by have:=a.next;omega),a.get q Z]⟩⟩
end
theorem afT (v:V)(u:V)(l m:List (List Int))(h:H)(sv:SR h v l)(b:SR h u m)(c:l.length<1000000)(a:m.length<1000000)(rl: ∀i,i<l.length->(l.getD i []).length<1000000)(d: ∀i,i<m.length->(m.getD i []).length<1000000):
  Ev T 30 [v,aC 0,u] h (λw h'=>w= .bool (decide (l=m))/\Fr h h'):=by
 refine mV ?_
 simp(disch:=omega)only[go_sem,aV,eq_self,decide_true]
 refine (Ln.Ed v u l m h sv b c a rl d).mono ?_
 rintro _ j ⟨rfl,f⟩
 refine aT ?_
 exact f
def ct3:Nat×List Nat:=(3, [21,15,7])
def lt3:rJ:=⟨[15,19], [21,15,19,7,11,5], []⟩
def Qf:Tb:=⟨7,6, [[1,1,1], [1,6,1], [2,0,6]]⟩
def X3 (a:Nat)(x:List Nat):Int:=(tv Qf a (oQ ((ct3.2.map (Nu 3)).map (msk (lt3.e 3))) (bL x (bI 3))):Nat)
theorem UJ:vU 3 (fG 3 (· ∈T3)) L3 [0,1,3]:=KOk.isK (fG.kT UW) Lq om alK
theorem alR:DB 3 (fG 3 (· ∈T3)) L3 Qf ([0,1,3]:List Nat).length X3:=by
 have b: ∀x∈lt3.e 3,bJ 3 x:=λx h=>Ij ((show ∀x∈lt3.e 3,NT 3 x=true by decide+kernel) x h)
 have f: ∀x∈L3,x∈lt3.e 3:=by decide+kernel
 have d: ∀x∈lt3.e 3,x∈L3:=by decide+kernel
 obtain⟨t,a,c⟩:=QC (rr:=lt3) (cc:=ct3) (s:=bI 3) om (fG.kT UW) Lq (bJ.one 3) (λx X=>by
  rw[qQ X,<-Lq.mem]
  exact⟨f x,d x⟩) b (by decide+kernel)
 have:t=Qf:=by
  have e:XY[ct3.1]? =some Qf:=rfl;rw[e] at a;exact (Option.some.inj a).symm
 subst this;exact c
theorem akY:(List.range ([0,1,3]:List Nat).length).map (uL L3 [0,1,3] X3)= [[1,1,1], [1,6,1], [2,0,6]]:=by decide+kernel
theorem sz3 (k:Nat):lI (fG 3 (· ∈T3)) L3 [0,1,3] k=(Xf L3 (([0,1,3]:List Nat).getD k 0)).length:=by
 unfold lI;rw[Uk Lq]
theorem wK3 (a k:Nat)(z:Int)(c:z*((tv Qf a 0:Nat):Int)%7=1)(h:0<=z/\z<7):wK (fG 3 (· ∈T3)) L3 [0,1,3] Qf X3 a k=(((Xf L3 (([0,1,3]:List Nat).getD k 0)).length:Nat):Int)*JT L3 [0,1,3] X3 a k*z%7:=by
 unfold wK;rw[sz3]
 have d:((tv Qf a 0:Nat):Int)%(Qf.p:Int)≠0:=λe=>by
  have e:((tv Qf a 0:Nat):Int)%7=0:=e;rw[Int.mul_emod,e,Int.mul_zero,Int.zero_emod] at c;cases c
 have b:=GY (p:=(Qf.p:Int)) (by decide+kernel) d;obtain⟨y,f⟩:=exI (iv (Qf.p:Int) (tv Qf a 0:Nat));rw[f] at b |-;have b:y*((tv Qf a 0:Nat):Int)%7=1:=b;have e:y%7=z:=Xk (p:=7) (s:=((tv Qf a 0:Nat):Int)) ⟨Int.emod_nonneg _ deC,Int.emod_lt_of_pos _ deC⟩ h (by rw[mul_mod (zP 7 y) rfl];exact b) c;show _*y%7=_;rw[<-e];exact mul_mod rfl (zP 7 y).symm
theorem alM:(List.range ([0,1,3]:List Nat).length).map (CO (fG 3 (· ∈T3)) L3 [0,1,3] Qf X3)= [[1,3,2], [1,4,2], [1,0,6]]:=by
 have a:=λk=>wK3 0 k 1 (by decide+kernel) om
 have b:=λk=>wK3 1 k 1 (by decide+kernel) om
 have c:=λk=>wK3 2 k 4 (by decide+kernel) om
 have e:(List.range ([0,1,3]:List Nat).length).map (CO (fG 3 (· ∈T3)) L3 [0,1,3] Qf X3)= [CO (fG 3 (· ∈T3)) L3 [0,1,3] Qf X3 0,CO (fG 3 (· ∈T3)) L3 [0,1,3] Qf X3 1,CO (fG 3 (· ∈T3)) L3 [0,1,3] Qf X3 2]:=rfl;rw[e];unfold CO;rw[Ln.fN λk _=>a k,Ln.fN λk _=>b k,Ln.fN λk _=>c k];decide+kernel
set_option maxHeartbeats 32000000
theorem TF (h:H):Ev T 9 [] h (λv h'=>v= .bool true/\Fr h h'):=by
 refine lG ?_;refine (Yz h).mono ?_;rintro vc h1 ⟨O,R,q,f1⟩;have eL:cK O R 3 0 (bI 3)=L3:=(dV q.kT q.isc).1.uniq Lq;refine aT ?_;refine (Wd vc O R h1 q eL UJ deC alR deC).mono ?_;rintro _ h2 ⟨u,l,rfl,F,so,su,f2⟩;rw[akY] at F;obtain rfl:=Wl F so (by decide+kernel);refine aT ?_;refine (Yz h2).mono ?_;rintro r h3 ⟨L,t,b,Q⟩;have j:cK L t 3 0 (bI 3)=L3:=(dV b.kT b.isc).1.uniq Lq;refine aT ?_;refine (Xv r L t h3 b j UJ alR).mono ?_;rintro _ h4 ⟨u2,l2,rfl,c,o,n,z⟩;rw[alM] at c;obtain rfl:=Wl (c.trans (show List.Perm _ [[1,0,6], [1,3,2], [1,4,2]] by decide+kernel)) o (by decide+kernel);obtain⟨B,Y⟩:=exI h4.next;obtain⟨h5,Z,J,s5,f5⟩:=EZ Y [1,1,1];obtain⟨h6,e6,N,s6,P⟩:=EZ J [1,6,1];obtain⟨h7,e7,x,s7,k⟩:=EZ N [2,0,6];obtain⟨w,e8,n8,g8,o8,i⟩:=iI x [.sl B 0 3 (.kn 3),.sl (B+1) 0 3 (.kn 3),.sl (B+1+1) 0 3 (.kn 3)];have d7:decide ((Qf.p:Int)=7)=true:=rfl
 have s8:SR w (.sl (B+1+1+1) 0 3 (.kn 3)) [[1,1,1], [1,6,1], [2,0,6]]:=⟨_,SV.all rfl om g8 _,((s5.mono P).mono k).mono i,(s6.mono k).mono i,s7.mono i,trivial⟩
 have a:=((f5.trans P).trans k).trans i;simp(disch:=omega)only[go_sem,d7,Y,Z,J,Ta,e6,N,e7,x,TM _ (pG ..) (pG ..) (pG ..),e8];refine (afT u _ _ _ w ((su.mono (Q.trans z)).mono a) s8 deC deC deC deC).mono ?_;rintro _ h9 ⟨rfl,W⟩;obtain⟨C,G⟩:=exI h9.next;obtain⟨ha,ea,K,sa,fa⟩:=EZ G [1,0,6];obtain⟨hb,eb,s,sb,y⟩:=EZ K [1,3,2];obtain⟨hc,ec,U,sc,m⟩:=EZ s [1,4,2];obtain⟨A,ed,nd,gd,od,f⟩:=iI U [.sl C 0 3 (.kn 3),.sl (C+1) 0 3 (.kn 3),.sl (C+1+1) 0 3 (.kn 3)]
 have sd:SR A (.sl (C+1+1+1) 0 3 (.kn 3)) [[1,0,6], [1,3,2], [1,4,2]]:=⟨_,SV.all rfl om gd _,((sa.mono y).mono m).mono f,(sb.mono m).mono f,sc.mono f,trivial⟩
 have d:=((fa.trans y).trans m).trans f;simp(disch:=omega)only[go_sem,eq_self,decide_true,G,ea,K,Ta,eb,s,ec,U,TM _ (pG ..) (pG ..) (pG ..),ed];refine (afT u2 _ _ _ A ((n.mono (a.trans W)).mono d) sd deC deC deC deC).mono ?_;rintro _ he ⟨rfl,fe⟩;simp(disch:=omega)only[go_sem,eq_self,decide_true];exact ((((((f1.trans f2).trans Q).trans z).trans a).trans W).trans d).trans fe
set_option maxHeartbeats 32000000
structure Tl (G:List Nat->Prop)(L:LN)(K:List Nat)(t:Tb)(X:Nat->List Nat->Int)(hh:H)(u vl vi:V)(l:List (List Int)):Prop where
 pm:l.Perm ((List.range K.length).map (uL L K X))
 so:l.Pairwise Nq
 su:SR hh u l
 sl:dD vl=some (aC (K.length:Int))/\ ∃id off,Sl vl 3 K.length id off/\ ∀k,k<K.length->id<hh.next/\hh.cell id (off+k*3+2)=some (aC (lI G L K k:Nat))
 si:SI hh vi (zi ((List.range K.length).map (sX G L K)))
section
variable {n:Nat} {G:List Nat->Prop} {L:LN} {K:List Nat} {t:Tb} {X:Nat->List Nat->Int}
theorem Tl.mono {h h':H}{u d i:V}{l:List (List Int)}(x:Tl G L K t X h u d i l)(f:Fr h h'):Tl G L K t X h' u d i l:=by
 obtain⟨j,id,b,m,c⟩:=x.sl;exact⟨x.pm,x.so,x.su.mono f,⟨j,id,b,m,λk a=>⟨by have:=(c k a).1;have:=f.next;omega,by rw[f.cell (c k a).1];exact (c k a).2⟩⟩,x.si.mono f⟩
theorem Tl.row {h:H}{u c f:V}{l:List (List Int)}(x:Tl G L K t X h u c f l){i:Nat}(hi:i<K.length):l.length=K.length/\ ∃a,a<K.length/\l.getD i []=uL L K X a:=by
 have b:=x.pm.length_eq;rw[dO,gT] at b;have:=x.pm.mem_iff.1 (bF (l:=l) (k:=i) (d:= []) om);obtain⟨a,j,e⟩:=oG.1 this;exact⟨b,a,mS.1 j,e.symm⟩
end
section
variable {n:Nat} {G:List Nat->Prop} {L:LN} {K:List Nat}
theorem Yf (k:Nat):(dR G L k).Nodup:=by
 unfold dR;exact List.Pairwise.filter _ List.nodup_range
theorem ajZ (n:Nat)(G:List Nat->Prop)(L:LN): ∃K,vU n G L K:=by
 classical
 refine⟨(dR G L L.length).mergeSort λr s=>decide (¬IH n G L s r),List.mergeSort_perm _ _,?_⟩
 have f:=List.pairwise_mergeSort (le:=λr s=>decide (¬IH n G L s r)) (λa b c f d=>by
  simp only[decide_eq_true_eq] at f d |-
  unfold IH at*;omega) (λa b=>by
  simp only[Bool.or_eq_true,decide_eq_true_eq]
  unfold IH;omega) (dR G L L.length)
 have d:((dR G L L.length).mergeSort λr s=>decide (¬IH n G L s r)).Nodup:=(List.mergeSort_perm _ _).nodup_iff.2 (Yf _);rw[Ow] at d;refine (f.and d).imp λ⟨h,h4⟩=>?_
 simp only[decide_eq_true_eq] at h;unfold IH at*;omega
variable (hG:oK n G) (E:fW G L)
include hG E
end
set_option maxHeartbeats 32000000
set_option maxHeartbeats 32000000
def gD (k d:Nat):Bool:=(List.range d).all λe=>decide (e<2)||decide (k%e≠0)
section
variable {n:Nat} {G:List Nat->Prop} {L:LN} {K:List Nat} {t:Tb} {X:Nat->List Nat->Int}
theorem Ym {o:Nat->Prop}(l:V)(O:LN)(R:nZ)(h:H)(k:GC o h l n O R G)(J:cK O R n 0 (bI n)=L)(F:vU n G L K)(C:DB n G L t K.length X):
  Ev T 13 [l] h (λv h'=>v= .tup [aC (t.p:Int),aC 0]/\Fr h h'):=by
 have i:=k
 obtain⟨c,f,rfl,s,A⟩:=k.ch
 have a:c.one=true:=NB s
 have b:f.one=true:=KY A
 have P:=C.k12
 obtain⟨B,m⟩:=exI h.next
 obtain⟨z,e1,n1,N,o1,j⟩:=iI m [aC n,c,f]
 have q:=dH h (v:= aC n) (u:=c) (w:=f) rfl a b
 refine Nk q m e1 (bU N) ?_
 refine (Wu _ n O R G z (i.mono j) L J K F om t X C C.e120).mono ?_
 rintro _ r ⟨D,M,rfl,Q,hD,Z,W⟩
 refine aT ?_
 refine bV (λY=>(Y rfl).elim) (λ_=>?_)
 obtain⟨y,x,vL,vP,O2,R2,d,_⟩:=W.ex
 have U:r.cell D 6=some (aC (t.p:Int)):=by rw[H.cell_of d];rfl
 refine bM U ?_
 exact j.trans Q
end
set_option maxHeartbeats 32000000
theorem UY {F:Nat->Prop}(z:V)(n:Nat)(O:LN)(R:nZ)(G:List Nat->Prop)(h:H)(b:GC F h z n O R G)(L:LN)(s:cK O R n 0 (bI n)=L)(K:List Nat)(r:vU n G L K)(a0:64<K.length):
  Ev T 41 [z] h (λv h'=>v= .tup [.nilp,aC 5]/\Fr h h'):=by
 have i:=b
 obtain⟨j,l,rfl,P,U⟩:=b.ch
 refine mV ?_
 have c:j.one=true:=NB P
 have d:l.one=true:=KY U
 obtain⟨E,ll⟩:=dV b.kT b.isc
 have a1:=kF b
 rw[s] at E ll
 have kl:K.length<=5040:=by
  have k:=r.perm.length_eq;have m:=tU (G:=G) (L:=L) L.length;omega
 have a:(dR G L L.length).length<60000:=by rw[<-r.perm.length_eq];omega
 obtain⟨B,A⟩:=exI h.next
 obtain⟨k,e1,n1,Z,o1,q⟩:=iI A [aC n,j,l]
 have J:=dH h (v:= aC n) (u:=j) (w:=l) rfl c d
 have y: ∀t,Fr k t->t.row B 0 3=some [aC n,j,l]:=λt f=>bU (by rw[f.get B om];exact Z)
 simp(disch:=omega)only[go_sem,aV,J,A,e1,y k (Fr.refl _)]
 refine (Kq _ n O R G k (i.mono q) L s a).mono ?_
 rintro _ m ⟨v4,K2,ks,rfl,o,N,Y,x⟩
 obtain rfl:=r.uniq o
 have co:=Df om N Y
 refine aT ?_
 refine bV (λhc=>(hc rfl).elim) (λ_=>?_)
 refine bM (y m x) ?_
 refine (aeP _ n O R G m (i.mono (q.trans x)) L s a).mono ?_
 rintro _ h3 ⟨K3,W,rfl,f3⟩
 have Q:decide ((64:Int)<(K.length:Int))=true:=cV om
 refine eZ @co.1 Q ?_
 exact q.trans (x.trans f3)
theorem abX (l:V)(d:Int)(O:List (List Int))(R:List (List (List Int)))(h:H)(c:ChI h l d O R)(o:d<=20\/64<d)(s:Li O)(sr:Ul R)(k:To d O R≠0):
  Ev T 41 [l] h (λv h'=>v= .tup [.nilp,aC (To d O R)]/\Fr h h'):=by
 have f:=c
 obtain⟨i,j,rfl,t,z⟩:=c
 have a:i.one=true:=NB t
 have b:j.one=true:=KY z
 obtain⟨B,n⟩:=exI h.next
 obtain⟨y,e1,F,r,G,m⟩:=iI n [aC d,i,j]
 have q:=dH h (v:= aC d) (u:=i) (w:=j) rfl a b
 refine Nk q n e1 (bU r) ?_
 refine (abE _ d O R y (f.mono m) o s sr k).mono ?_
 rintro _ A ⟨rfl,x⟩
 refine aT ?_
 refine bV (λ_=>?_) (λc=>(c k).elim)
 refine aT ?_
 exact m.trans x
theorem DT {e:Int}(n:Int)(d a:V)(b:d.one=true)(c:a.one=true)(h:H)(o:e≠0)
  (m: ∀h1,Fr h h1->Ev T 41 [.agg [aC n,d,a]] h1 (λv h'=>v= .tup [.nilp,aC e]/\Fr h1 h')):
  Ev T 13 [.agg [aC n,d,a]] h (λv h'=>v= .tup [aC 0,aC e]/\Fr h h'):=by
 obtain⟨B,i⟩:=exI h.next
 obtain⟨h1,e1,s,k,t,f⟩:=iI i [aC n,d,a]
 have j:=dH h (v:= aC n) (u:=d) (w:=a) rfl b c
 refine Nk j i e1 (bU k) ?_
 refine (m h1 f).mono ?_
 rintro _ r ⟨rfl,l⟩
 refine aT ?_
 refine bV (λ_=>?_) (λq=>(q o).elim)
 refine aT ?_
 exact f.trans l
def BZ:List Nat:= [1,2,3,4,5,6,7,0,9,10,11,12,8,14,15,16,17,18,19,13]
theorem Rb:bJ 20 BZ:=XG (by decide+kernel)
theorem Ql: ∀g∈ [BZ],bJ 20 g:=λg a=>by rw[List.mem_singleton.1 a];exact Rb
theorem XZ:fC BZ 20∣280:=(mC Rb 280).2 (by decide+kernel)
theorem GA {y:List Nat}(h:fG 20 (· ∈ [BZ]) y): ∃k,k<280/\y=pw 20 BZ k:=by
 have: ∃k,y=pw 20 BZ k:=by
  induction h with
  |one=>exact⟨0,rfl⟩
  |mul _ hg ih=>
   obtain⟨k,rfl⟩:=ih;rw[List.mem_singleton.1 hg];exact⟨k+1,rfl⟩
 obtain⟨k,rfl⟩:=this;have o:=Nat.le_of_dvd om XZ;have p:=rP Rb;exact⟨k%fC BZ 20,iD (Nat.mod_lt _ p) o,QS Rb k⟩
theorem ahR (A:LN)(nd:A.Nodup)(b: ∀x∈A,fG 20 (· ∈ [BZ]) x):A.length<=300:=by
 have:=List.Nodup.length_le_of_subset nd (l₂:=(List.range 280).map (pw 20 BZ)) λx c=>by
  obtain⟨k,a,e⟩:=GA (b x c);exact oG.2 ⟨k,mS.2 a,e.symm⟩
 rw[dO,gT] at this;omega
theorem alY: ∃M,0<M/\M<=5040/\ ∀x,fG 20 (· ∈ [BZ]) x->fC x 20∣M:=⟨280,om,om,λy a=>by
 obtain⟨k,_,rfl⟩:=GA a;rw[mC (jW Rb k),WO Rb,<-mC Rb]
 exact Nat.dvd_trans XZ ⟨k,Nat.mul_comm ..⟩⟩
theorem aeM {L:LN}{K:List Nat}(E:fW (fG 20 (· ∈ [BZ])) L)(n:vU 20 (fG 20 (· ∈ [BZ])) L K):64<K.length:=by
 have r:=fG.kT Ql
 have ab: ∀i j,i<L.length->cR (fG 20 (· ∈ [BZ])) L i j->L.getD i []=L.getD j []:=λi j hi ⟨g,hg,e⟩=>by
  have c:=(E.mem _).1 (bF (l:=L) (d:= []) hi);have X:=c.cF Ql;have Y:=hg.cF Ql;obtain⟨a,_,m⟩:=GA c;obtain⟨b,_,q⟩:=GA hg;rw[<-e];unfold bL;have:aZ (L.getD i []) g=aZ g (L.getD i []):=by rw[m,q,<-Rq Rb,<-Rq Rb,Nat.add_comm]
  rw[aX Y.inv X Y,this,<-aX Y.inv Y X,dX Y,dK X]
 have e1:dR (fG 20 (· ∈ [BZ])) L L.length=List.range L.length:=by
  classical
  unfold dR;refine List.filter_eq_self.2 λk f=>cV λj s o=>?_
  rw[mS] at f;have:=ab j k om o;rw[gV,gV,dJ om,dJ f] at this;have:=(List.getElem_inj E.nodup).1 this;omega
 rw[n.perm.length_eq,e1,gT]
 have:=List.Nodup.length_le_of_subset (l₁:=(List.range 65).map (pw 20 BZ)) (by decide+kernel) λy h=>by
  obtain⟨k,_,rfl⟩:=oG.1 h;exact (E.mem _).2 ((fG.of Ql (List.mem_singleton.2 rfl)).pow Ql k)
 rw[dO,gT] at this;omega
set_option maxHeartbeats 32000000
section
variable {p:Int} {r:Nat} {c:Nat->Nat->Nat->Int} {w co:Nat->Nat->Int}
theorem akK (C:wJ p r c w co)(q:fD p=true)(B:0<r)(y:r<=64){i:Nat}(hi:i<r){M:List (List Int)}(m:M.length=r)(n: ∀k,k<M.length->(M.getD k []).length=r)(l: ∀k j,k<r->j<r->Ln.kH M k j=c i j k%p)(x:Int)(u:V)(h:H)(s:SR h u M):
  Ev T 46 [.agg [aC p,u],aC x] h (λv h'=> ∃(vu:V) (S:Nat->Bool) (f:Nat->Nat->Int),v= .tup [vu,aC 0]/\MS p r co (λa=>decide ((w a i-x)%p=0)) S f/\SR h' vu (Ln.pU r r S f)/\Fr h h'):=by
 have A:=C.p1
 have z:(M.getD 0 []).length=r:=n 0 om
 have t:Ln.Vd (p,M) r:=⟨q,by show 1<=M.length;omega,by show M.length<=64;omega,om,om,n,λk j b d=>by
  have b:k<M.length:=b;show 0<=Ln.kH M k j;rw[l k j om d]
  exact Int.emod_nonneg _ om,λk j b d=>by
  have b:k<M.length:=b;show Ln.kH M k j<p;rw[l k j om d]
  exact Int.emod_lt_of_pos _ om⟩
 refine (Ln.VU _ (p,M) x h ⟨u,rfl,s⟩ (by show (M.length:Int)<=_;omega) (Ln.yJ t) (by show (M.getD 0 []).length=M.length;omega)).mono ?_
 rintro _ h' ⟨vu,S,f,rfl,o,sr,fr⟩
 simp only[m] at o sr
 rw[Ln.Uq rfl] at sr
 exact⟨vu,_,_,rfl,Ln.ajL C hi x m (λk j b d=>by rw[l k j b d,zP]) o,sr.sr,fr⟩
end
section
variable {n:Nat} {G:List Nat->Prop} {L:LN} {K:List Nat} {t:Tb} {X:Nat->List Nat->Int}
theorem Gr {W0:Nat->Prop}(vc:V)(O:LN)(R:nZ)(h:H)(d:GC W0 h vc n O R G)(hL:cK O R n 0 (bI n)=L)(N:vU n G L K)(C:DB n G L t K.length X)(i:Nat)(i9:i<1000)(x:Int):
  Ev T 20 [vc,aC i,aC x] h (λv h'=>(i<K.length-> ∃(u:V) (S:Nat->Bool) (f:Nat->Nat->Int),v= .tup [u,aC 0]/\MS t.p K.length (coK G L K t X) (λa=>decide ((wK G L K t X a i-x)%t.p=0)) S f/\SR h' u (Ln.pU K.length K.length S f))/\(K.length<=i->v= .tup [.aH,aC 2])/\Fr h h'):=by
 have Y:=d
 obtain⟨F,P,rfl,sO,sR⟩:=d.ch
 have m:F.one=true:=NB sO
 have o:P.one=true:=KY sR
 have hG:=d.kT
 obtain⟨E,ll⟩:=dV d.kT d.isc
 have l5:=kF d
 rw[hL] at E ll
 have W:=C.k12
 have p1:=vW C
 have a0:=C.p100
 have hp:fD (t.p:Int)=true:=by
  unfold fD;rw[C.pr,cV (show (t.p:Int)<10000 by omega)];rfl
 have CW:=chW hG E N C
 obtain⟨B,hB⟩:=exI h.next
 obtain⟨h1,e1,n1,g1,o1,b⟩:=iI hB [aC n,F,P]
 have bx:=dH h (v:= aC n) (u:=F) (w:=P) rfl m o
 refine Nk bx hB e1 (bU g1) ?_
 refine (Wu _ n O R G h1 (Y.mono b) L hL K N om t X C C.e120).mono ?_
 rintro _ A ⟨D,M,rfl,l,hD,hM,z⟩
 refine aT ?_
 refine bV (λhc=>(hc rfl).elim) (λ_=>?_)
 have z:=z.go (W':=λ_=>False) (Fx.of (Fr.refl A)) λ_ _ h=>h.elim
 obtain⟨a1,a2,vL,vP,O2,R2,J,_,_,⟨lv,_⟩,_⟩:=z.ex
 have c3:A.cell D 3=some vL:=by rw[H.cell_of J];rfl
 have d1:decide ((i:Int)<0)=false:=bZ om
 by_cases hi:K.length<=i
 .have d2:decide ((K.length:Int)<=(i:Int))=true:=cV om
  refine jX d1 c3 lv d2 ?_
  exact⟨λh=>absurd h om,λ_=>trivial,b.trans l⟩
 have d2:decide ((K.length:Int)<=(i:Int))=false:=bZ om
 replace hi:i<K.length:=om
 refine jX d1 c3 lv d2 ?_
 refine (ON n G L K N W om t ⟨om,om⟩ A D M i hi z λ_ h=>h.elim).mono ?_
 rintro _ h3 ⟨u,rfl,uc,u1,su,a3,Z⟩
 have s:(Nj G L K t i).length=K.length:=Ln.dC ..
 have Q: ∀k,k<(Nj G L K t i).length->((Nj G L K t i).getD k []).length=K.length:=λk y=>by
  rw[s] at y;unfold Nj;rw[Ln.jT _ y,Ln.aW]
 have U: ∀k j,k<K.length->j<K.length->Ln.kH (Nj G L K t i) k j=((mW G L K i j k:Nat):Int)%t.p:=λk j y hj=>by
  rw[aaH G L K t i y hj];exact Int.natCast_emod ..
 refine aT ?_
 refine (akK CW hp om om hi s Q U x u h3 su.sr).mono ?_
 rintro _ h4 ⟨vu,S,f,rfl,sp,sr,f4⟩
 refine aT ?_
 exact⟨λ_=>⟨vu,S,f,rfl,sp,sr⟩,λh=>absurd h om,⟨by have:=b.next;have:=l.next;have:=Z.next;have:=f4.next;omega,λq hq=>by
  rw[f4.get q (by have:=b.next;have:=l.next;have:=Z.next;omega),Z.get q (by have:=b.next;have:=l.next;omega) (by show q≠M;have:=b.next;omega),l.get q (by have:=b.next;omega),b.get q hq]⟩⟩
end
theorem NK {p:Int}{r:Nat}{c:Nat->Nat->Nat->Int}{w co:Nat->Nat->Int}(C:wJ p r c w co){A:Nat->Bool}{S:Nat->Bool}{f:Nat->Nat->Int}(s:MS p r co A S f){a:Nat}(h:a<r)(d: ∀b,b<r->(A b=true↔b=a)):Ln.pU r r S f= [Ln.eN r (w a)]:=(Ln.DX.of C s).one a h d
theorem ahH {p:Int}{r:Nat}{c:Nat->Nat->Nat->Int}{w co:Nat->Nat->Int}(C:wJ p r c w co){A:Nat->Bool}{S:Nat->Bool}{f:Nat->Nat->Int}(s:MS p r co A S f)(m:(r:Int)<p)(q: ∀b,b<r->A b=true):Ln.pU r r S f=Ln.pU r r (λ_=>true) λk j=>if j=k then 1 else 0:=by
 have d:=s.dim C m
 have e1:xU r A=r:=by
  unfold xU;rw[List.filter_eq_self.2 λb o=>q b (mS.1 o),gT]
 have i: ∀k,k<r->S k=true:=λk a=>by
  rw[e1] at d;unfold xU at d;have:=List.length_filter_eq_length_iff.1 (d.trans gT.symm);exact this k (mS.2 a)
 refine Ln.LU (λk a=>i k a) λk j a l h=>?_
 by_cases e:j=k
 .subst e
  rw[aS rfl,s.re.one j a l]
 .rw[aQ e,s.re.zer k j a h l (i j h) e]
theorem XO {n:Nat}{S L:LN}{rr:rJ}{cc:Nat×List Nat}{t:Tb}(d:n<=6)(i: ∀g∈S,bJ n g)(E:fW (fG n (· ∈S)) L)(f: ∀x∈rr.e n,NT n x=true)(k: ∀x∈L,x∈rr.e n)(h: ∀x∈rr.e n,x∈L)(j:XY[cc.1]? =some t)(l:aiT n XY rr cc=true):
  DB n (fG n (· ∈S)) L t cc.2.length λa x=>(tv t a (oQ ((cc.2.map (Nu n)).map (msk (rr.e n))) (bL x (bI n))):Nat):=by
 obtain⟨o,b,c⟩:=QC (rr:=rr) (cc:=cc) (s:=bI n) d (fG.kT i) E (bJ.one n) (λx X=>by
  rw[qQ X,<-E.mem]
  exact⟨k x,h x⟩) (λx m=>Ij (f x m)) l
 rw[j] at b
 cases b
 exact c
def ct4:Nat×List Nat:=(4, [228,78,57,147])
def lt4:rJ:=⟨[57], [228,57,78,147], []⟩
def tb4:Tb:=⟨5,4, [[1,1,1,1], [1,1,4,4], [1,4,2,3], [1,4,3,2]]⟩
def X4 (a:Nat)(x:List Nat):Int:=(tv tb4 a (oQ ((ct4.2.map (Nu 4)).map (msk (lt4.e 4))) (bL x (bI 4))):Nat)
theorem adB:vU 4 (fG 4 (· ∈C4)) L4 [0,2,1,3]:=KOk.isK (fG.kT VM) YX om anI
theorem anB:DB 4 (fG 4 (· ∈C4)) L4 tb4 ([0,2,1,3]:List Nat).length X4:=XO (rr:=lt4) (cc:=ct4) om VM YX (by decide+kernel) (by decide+kernel) (by decide+kernel) rfl (by decide+kernel)
theorem anA:(List.range ([0,2,1,3]:List Nat).length).map (uL L4 [0,2,1,3] X4)= [[1,1,1,1], [1,1,4,4], [1,4,2,3], [1,4,3,2]]:=by decide+kernel
def lt1:rJ:=⟨[], [0], []⟩
def ct1:Nat×List Nat:=(0, [0])
def tb1:Tb:=⟨3,1, [[1]]⟩
def X1 (a:Nat)(x:List Nat):Int:=(tv tb1 a (oQ ((ct1.2.map (Nu 1)).map (msk (lt1.e 1))) (bL x (bI 1))):Nat)
theorem MO:fW (fG 1 (· ∈([]:LN))) [[0]]:=abT.amU (ws:= [[]]) (by decide+kernel)
theorem anL:KOk 1 [[0]] [0]=true:=by decide+kernel
theorem alV:vU 1 (fG 1 (· ∈([]:LN))) [[0]] [0]:=KOk.isK (fG.kT λ_ h=>absurd h List.not_mem_nil) MO om anL
theorem anM:DB 1 (fG 1 (· ∈([]:LN))) [[0]] tb1 ([0]:List Nat).length X1:=XO (rr:=lt1) (cc:=ct1) om (λ_ h=>absurd h List.not_mem_nil) MO (by decide+kernel) (by decide+kernel) (by decide+kernel) rfl (by decide+kernel)
set_option maxRecDepth 100000
set_option maxHeartbeats 32000000
section
variable {n:Nat} {G:List Nat->Prop} {L:LN} {K:List Nat} {t:Tb} {X:Nat->List Nat->Int}
theorem QD {W0:Nat->Prop}(vc:V)(O:LN)(R:nZ)(h:H)(z:GC W0 h vc n O R G)(hL:cK O R n 0 (bI n)=L)(ik:vU n G L K)(C:DB n G L t K.length X):
  Ev T 24 [vc] h (λv h'=> ∃(u:V) (l:List (List Int)),v= .tup [u,aC 0]/\l.Perm ((List.range K.length).map (uL L K X))/\l.Pairwise Nq/\SI h' u (l.map λx=>x.getD 0 0)/\Fr h h'):=by
 have a1:=z
 obtain⟨vO,vR,rfl,sO,sR⟩:=z.ch
 have A:vO.one=true:=NB sO
 have Y:vR.one=true:=KY sR
 have Q:=C.k12
 have E:=(dV z.kT z.isc).1
 rw[hL] at E
 have r0:0<K.length:=(sV z.kT E ik).1
 obtain⟨B,hB⟩:=exI h.next
 obtain⟨h1,e1,n1,g1,o1,f1⟩:=iI hB [aC n,vO,vR]
 have bx:=dH h (v:= aC n) (u:=vO) (w:=vR) rfl A Y
 refine Nk bx hB e1 (bU g1) ?_
 refine (Wd _ O R h1 (a1.mono f1) hL ik Q C C.e120).mono ?_
 rintro _ Z ⟨u,l,rfl,pm,so,su,f2⟩
 refine aT ?_
 refine bV (λhc=>(hc rfl).elim) (λ_=>?_)
 have lu:=su.lens
 have s:=pm.length_eq
 rw[dO,gT] at s
 rw[s] at lu
 obtain⟨iu,ou,wu,m,c,P,f,a0⟩:=su.open
 rw[s] at m c P f
 have rl: ∀i,i<K.length->(l.getD i []).length=K.length:=λi hi=>by
  obtain⟨a,_,e⟩:=oG.1 (pm.mem_iff.1 (bF (l:=l) (k:=i) (d:= []) om));rw[<-e];exact Ln.aW ..
 obtain⟨r,hr⟩:=exI K.length
 obtain⟨S,hS⟩:=exI Z.next
 obtain⟨h3,e3,n3,g3,o3,f3⟩:=iI hS (rc r λ_=> aC 0)
 rw[hr] at lu s m c P f rl Q r0
 simp(disch:=omega)only[go_sem,lu,XN Z r om,hS,e3]
 refine aP (λk' vs o=> ∃k:Nat,(∃g:Nat->V,vs= [g 0,g 1,g 2,g 3,g 4,g 5,.sl S 0 r (.kn r),g 7,g 8,g 9,u,aC r,aC k,g 13])/\k<=r/\o.get S=some (.cells false (rc r λj=> aC (if j<k then (l.getD j []).getD 0 0 else 0)))/\Fx (· =S) h3 o/\k'=r-k) r
  ⟨0,aD rfl,fY _,by rw[g3];rfl,Fx.refl _ _,rfl⟩ ?_
 rintro k' vs o ⟨k,⟨g,rfl⟩,hk,gS,F,rfl⟩
 have nF:=F.next
 have F2:Fr Z o:=⟨om,λq hq=>by rw[F.get q om (by show q≠S;omega)];exact f3.get q hq⟩
 by_cases J:(k:Int)<(r:Int)
 case neg=>
  have d1:=bZ J;obtain rfl:k=r:=om
  refine bM d1 ?_;refine⟨_,l,rfl,pm,so,?_,f1.trans (f2.trans F2)⟩
  have e:(rc k λj=>aC (if j<k then (l.getD j []).getD 0 0 else 0))=ints (l.map λx=>x.getD 0 0):=by
   refine List.ext_getElem (by simp [rc,ints,s]) λj h1 Z=>?_
   have hj:j<k:=by simpa [rc] using h1
   simp [rc,ints,hj,dJ (show j<l.length by omega)]
  rw[e] at gS;exact SV.all (by rw[aE,dO,s,jP]) om gS _
 have d1:=cV J
 have b:k<r:=om
 have cu:o.cell iu (ou+k)=some (wu.getD k .undef):=by rw[F2.cell (c om)];exact f k b
 have sr:=gH a0 (i:=k) om V.undef []
 obtain⟨iw,ow,U,y,N⟩:=sr.open
 rw[rl k b] at U y N
 have i0:Ci 1 (wu.getD k .undef) (aC 0)=some (.ptr iw ow):=by rw[U.ixa .i64 0 om om];rfl
 have c0:=N 0 r0
 rw[<-F2.cell (y r0),Nat.add_zero] at c0
 have p8:=bE (vs:=rc r λj=>aC (if j<k then (l.getD j []).getD 0 0 else 0)) (off:=k) (by rw[dE];exact b) o S (aC ((l.getD k []).getD 0 0))
 refine Ie d1 @m.ixa cu i0 c0 gS p8 ?_
 rw[fJ k]
 refine⟨r-(k+1),om,k+1,aD rfl,om,?_,F.trans (Fx.set o (W:=(· =S)) rfl _) λ_ _ h=>h,rfl⟩
 rw[iQ]
 congr 2
 refine bW λj hj=>?_
 by_cases e:j=k
 .rw[aS e,e,aS om]
 .rw[aQ e]
  by_cases e2:j<k
  .rw[aS e2,aS om]
  .rw[aQ e2,aQ om]
end
structure Gl (h0 h:H)(u:V)(ws:List V)(l:LN):Prop where
 ow:dF h u 1 ws h0.next
 el:bH (λv x=>SI h v (zi x)/\vI (fF u) v) ws l
 fr:Fr h0 h
theorem Gl.app {k h a:H}{u y v:V}{ws:List V}{l:LN}{x:List Nat}(g:Gl k h u ws l)(f:Fr h a)(s:SI a v (zi x))(o:vI (fF u) v)(r:SV a y 1 [v])(A:ws.length<1000000):
  ∃h2,tW a 1 24 u y=some (.sl a.next 0 (ws.length+1) (.un 1),h2)/\Gl k h2 (.sl a.next 0 (ws.length+1) (.un 1)) (ws++ [v]) (l++ [x]):=by
 have N:=f.next
 have F:=g.fr.next
 obtain⟨h2,z,i⟩:=(g.ow.fr f).push (bytes:=24) r (n:=ws.length) (m:=1) om rfl om om om
 have J:=i.next
 have fx:Fx (fF u) a h2:=⟨om,λq B w=>i.old q om λid j n c e e2=>w ⟨j,n,c,by rw[e2];exact e⟩⟩
 have d:(v:V)->(x:List Int)->SI a v x->vI (fF (.sl a.next 0 (ws.length+1) (.un 1))) v:=λv x s=>by
  cases v with
  |sl b c' d' e'=>
   have:=SV.in s b c' d' e' rfl;rintro⟨o',n',c'',e⟩;cases e;omega
  |_=>trivial
 have el:bH (λv x=>SI h2 v (zi x)/\vI (fF (.sl a.next 0 (ws.length+1) (.un 1))) v) (ws++ [v]) (l++ [x]):=bH.append (g.el.mono λ(v:V) (x:List Nat) (q:SI h v (zi x)/\vI (fF u) v)=>And.intro ((q.1.mono f).fx q.2 fx) (d v _ (q.1.mono f))) ⟨And.intro (s.fx o fx) (d v _ s),trivial⟩
 exact⟨h2,z,i.own om rfl om,el,xQ.frb i (g.fr.trans f) (g.ow.fr f)⟩
set_option maxHeartbeats 32000000
theorem alX (h:H){v u w z:V}(c:v.cells= [v]/\v.one=true)(b:u.cells= [u]/\u.one=true)(a:w.cells= [w]/\w.one=true)(d:z.cells= [z]/\z.one=true):lU h 1 [.aH] 4 [(0,1,v),(1,1,u),(2,1,w),(3,1,z)]=some (.sl h.next 0 4 (.kn 4),h.new (.cells false [v,u,w,z])):=by
 have e:cJ [V.aH] 4= [.aH,.aH,.aH,.aH]:=rfl;simp [lU,fP,e,c.1,c.2,b.1,b.2,a.1,a.2,d.1,d.2,putAt]
theorem ahW (h:H):Ev T 7 [] h (λv h'=>v= .bool true/\Fr h h'):=by
 refine lG ?_;refine (TF h).mono ?_;rintro _ h1 ⟨rfl,f1⟩;simp(disch:=omega)only[go_sem,eq_self,decide_true];refine (Yz h1).mono ?_;rintro vc h2 ⟨O,R,G,f2⟩;obtain⟨vO,vR,rfl,j7,i0,_,_⟩:=G.sl;refine aT ?_;refine (alG h2).mono ?_;rintro w1 h3 ⟨O4,R4,s,f3⟩;obtain⟨wO,wR,rfl,b8,b1,_,_⟩:=s.sl;obtain⟨B,hB⟩:=exI h3.next;obtain⟨h4,e4,n4,g4,o4,f4⟩:=iI hB [aC 0,.aH,.aH];obtain⟨h5,e5,n5,g5,o5,f5⟩:=iI n4 [aC 0,.aH,.aH];obtain⟨h6,e6,n6,g6,o6⟩:=xN h5 B [aC (3:Nat),vO,vR];obtain⟨h7,e7,n7,g7,o7⟩:=xN h6 (B+1) [aC (4:Nat),wO,wR];have t8:h5.get B=some (.cells false [aC 0,.aH,.aH]):=by rw[o5 B om];exact g4
 have r8:h6.get (B+1)=some (.cells false [aC 0,.aH,.aH]):=by rw[o6 _ om];exact g5
 have b2:Fr h3 h7:=⟨om,λq hq=>by rw[o7 q om,o6 q om,o5 q om,o4 q om]⟩
 have rB: ∀d,Fr h7 d->d.row B 0 3=some [aC (3:Nat),vO,vR]:=λd f=>bU (by rw[f.get B om,o7 B om];exact g6)
 have rC: ∀d,Fr h7 d->d.row (B+1) 0 3=some [aC (4:Nat),wO,wR]:=λd f=>bU (by rw[f.get (B+1) om];exact g7)
 replace G:=G.mono (f3.trans b2)
 replace s:=s.mono b2
 have eL:cK O R 3 0 (bI 3)=L3:=(dV G.kT G.isc).1.uniq Lq;have l7:cK O4 R4 4 0 (bI 4)=L4:=(dV s.kT s.isc).1.uniq YX
 have s2:Fr h h7:=(f1.trans (f2.trans (f3.trans b2)))
 simp(disch:=omega)only[go_sem,hB,e4,n4,e5,lY h5 B 0 (v:= aC (3:Nat)) (u:=vO) (w:=vR) rfl j7 i0,t8,jE,e6,lY h6 (B+1) 0 (v:= aC (4:Nat)) (u:=wO) (w:=wR) rfl b8 b1,r8,e7,rB h7 (Fr.refl _)];refine (Ym _ O R h7 G eL UJ alR).mono ?_;rintro _ h8 ⟨rfl,f8⟩;refine bM (rC h8 f8) ?_;refine (Ym _ O4 R4 h8 (s.mono f8) l7 adB anB).mono ?_;rintro _ h9 ⟨rfl,f9⟩;have F9:=f8.trans f9;obtain⟨Q,hQ⟩:=exI h9.next;obtain⟨ha,ea,na,sa,fa⟩:=EZ hQ [0];obtain⟨y,eb,nb,gb,ob,fb⟩:=iI na [.sl Q 0 1 (.kn 1)];have p5:SP y (.sl (Q+1) 0 1 (.kn 1)) [[0]]:=SP.amI (a:= [0]) (h:=ha) sa om fb gb _;have nP: ∀g∈([]:LN),bJ 1 g:=λ_ h=>absurd h List.not_mem_nil
 refine wE @Fp hQ ea (dL ha (z:= .aH) (v:= .sl Q 0 1 (.kn 1)) rfl rfl) na eb ?_;refine (Ma _ 1 _ [[0]] y om om (fG.kT nP) MO deC p5).mono ?_;rintro v1 hc ⟨O1,R1,t0,a8,fc⟩
 have c0:GC (λid=>id<y.next) hc v1 1 O1 R1 (fG 1 (· ∈([]:LN))):=⟨t0,a8,fG.kT nP,om,om,aaB (fG.kT nP) a8 MO deC,420,om,om,λx hx=>Zo (hx.cF nP) om⟩
 have q0:cK O1 R1 1 0 (bI 1)= [[0]]:=(dV c0.kT c0.isc).1.uniq MO;refine aT ?_;refine (Ym _ O1 R1 hc c0 q0 alV anM).mono ?_;rintro _ hd ⟨rfl,fd⟩;have Fd:=F9.trans (fa.trans (fb.trans (fc.trans fd)));have a7:To 0 [] []=2:=by unfold To;rw[aS (.inl om)]
 have b0:mP [aC 0,.aH,.aH] []=some (.agg [aC 0,.aH,.aH]):=rfl;refine bM b0 ?_
 refine (DT (e:=2) 0 .aH .aH rfl rfl hd deC λd _=>by
  have:=abX (.agg [aC 0,.aH,.aH]) 0 [] [] d ⟨.aH,.aH,rfl,SR.aH _, [],SV.aH _ _,trivial,λv N=>absurd N List.not_mem_nil⟩ (.inl om) ⟨deC,λi hi=>absurd hi siM⟩ ⟨deC,λi hi=>absurd hi siM⟩ (by rw[a7];decide)
  rwa [a7] at this).mono ?_
 rintro _ he ⟨rfl,fe⟩;have Fe:=Fd.trans fe;refine bM (rB he Fe) ?_;refine (QD _ O R he (G.mono Fe) eL UJ alR).mono ?_;rintro _ hf ⟨ud,ld,rfl,l6,n3,p7,ff⟩;rw[akY] at l6;obtain rfl:=Wl l6 n3 (by decide+kernel);have Ff:=Fe.trans ff;refine bM (rC hf Ff) ?_;refine (Wd _ O4 R4 hf (s.mono Ff) l7 adB deC anB deC).mono ?_;rintro _ hg ⟨ut,lt,rfl,g1,s6,q2,fg⟩;rw[anA] at g1;obtain rfl:=Wl g1 s6 (by decide+kernel);have Fg:=Ff.trans fg;have d3:decide ((Qf.p:Int)=7)=true:=rfl;have d4:decide ((tb4.p:Int)=5)=true:=rfl;have d1:decide ((tb1.p:Int)=3)=true:=rfl;obtain⟨Z,hZ⟩:=exI hg.next;obtain⟨i1,q4,v6,m5,b6⟩:=EZ hZ [1,1,2];simp(disch:=omega)only[go_sem,d3,d4,d1,eq_self,decide_true,hZ,q4,Ta];refine (Ry ud _ _ [1,1,2] i1 (p7.mono (fg.trans b6)) m5 siM siM).mono ?_;rintro _ i2 ⟨rfl,i7⟩;rw[cV (show (List.map (λx:List Int=>x.getD 0 0) [[1,1,1], [1,6,1], [2,0,6]])= [1,1,2] from rfl)];obtain⟨Y,hY⟩:=exI i2.next;obtain⟨j1,n0,c6,m8,t4⟩:=EZ hY [1,1,1,1];obtain⟨j2,o0,l2,s9,e3⟩:=EZ c6 [1,1,4,4];obtain⟨j3,s0,f6,u2,c2⟩:=EZ l2 [1,4,2,3];obtain⟨j4,o2,m0,u3,a2⟩:=EZ f6 [1,4,3,2];obtain⟨j5,q1,w2,t7,v3,J⟩:=iI m0 [.sl Y 0 4 (.kn 4),.sl (Y+1) 0 4 (.kn 4),.sl (Y+1+1) 0 4 (.kn 4),.sl (Y+1+1+1) 0 4 (.kn 4)]
 have s8:SR j5 (.sl (Y+1+1+1+1) 0 4 (.kn 4)) [[1,1,1,1], [1,1,4,4], [1,4,2,3], [1,4,3,2]]:=⟨_,SV.all rfl om t7 _,(((m8.mono e3).mono c2).mono a2).mono J,((s9.mono c2).mono a2).mono J,(u2.mono a2).mono J,u3.mono J,trivial⟩
 have Fj:=t4.trans (e3.trans (c2.trans (a2.trans J)));simp(disch:=omega)only[go_sem,d4,eq_self,decide_true,hY,n0,c6,agX,o0,l2,s0,f6,o2,m0,alX _ (pG ..) (pG ..) (pG ..) (pG ..),q1];refine (afT ut _ _ _ j5 (q2.mono (b6.trans (i7.trans Fj))) s8 deC deC deC deC).mono ?_;rintro _ k1 ⟨rfl,s3⟩;have b7:=Fg.trans (b6.trans (i7.trans (Fj.trans s3)));simp(disch:=omega)only[go_sem,eq_self,decide_true,rB k1 b7];have CW:=chW G.kT Lq UJ alR
 have w3: ∀a k,a<3->k<3->wK (fG 3 (· ∈T3)) L3 [0,1,3] Qf X3 a k=(([[1,3,2], [1,4,2], [1,0,6]]:List (List Int)).getD a []).getD k 0:=λa k ha hk=>by
  have:=congrArg (λl=>(l.getD a []).getD k 0) alM;rw[<-this]
  have e:((List.range ([0,1,3]:List Nat).length).map (CO (fG 3 (· ∈T3)) L3 [0,1,3] Qf X3)).getD a []=Ln.eN 3 (wK (fG 3 (· ∈T3)) L3 [0,1,3] Qf X3 a):=by
   rw[gV,Al,List.getElem?_range (show a<([0,1,3]:List Nat).length from ha)];rfl
  show _=(((List.range ([0,1,3]:List Nat).length).map (CO (fG 3 (· ∈T3)) L3 [0,1,3] Qf X3)).getD a []).getD k 0;rw[e,Ln.cZ _ hk]
 have l3:([0,1,3]:List Nat).length=3:=rfl
 have cr: ∀a,a<3->Ln.eN 3 (wK (fG 3 (· ∈T3)) L3 [0,1,3] Qf X3 a)=([[1,3,2], [1,4,2], [1,0,6]]:List (List Int)).getD a []:=λa ha=>by
  have:=congrArg (λl=>l.getD a []) alM;rw[<-this]
  have e:((List.range ([0,1,3]:List Nat).length).map (CO (fG 3 (· ∈T3)) L3 [0,1,3] Qf X3)).getD a []=Ln.eN 3 (wK (fG 3 (· ∈T3)) L3 [0,1,3] Qf X3 a):=by
   rw[gV,Al,List.getElem?_range (show a<([0,1,3]:List Nat).length from ha)];rfl
  exact e.symm
 refine (Gr _ O R k1 (G.mono b7) eL UJ alR 1 om 0).mono ?_;rintro _ k2 ⟨N,_,o1⟩;obtain⟨ua,Sa,qa,rfl,g2,a1⟩:=N deC
 rw[NK CW g2 (a:=2) deC λb y=>by
  rw[l3] at y;rw[w3 b 1 y om];obtain rfl|rfl|rfl:b=0\/b=1\/b=2:=om
  all_goals decide+kernel] at a1
 have a9:=b7.trans o1;refine bM (rB k2 a9) ?_;refine (Gr _ O R k2 (G.mono a9) eL UJ alR 1 om 3).mono ?_;rintro _ k3 ⟨N,_,d8⟩;obtain⟨ub,Sb,qb,rfl,i5,L⟩:=N deC
 rw[NK CW i5 (a:=0) deC λb y=>by
  rw[l3] at y;rw[w3 b 1 y om];obtain rfl|rfl|rfl:b=0\/b=1\/b=2:=om
  all_goals decide+kernel] at L
 have b5:=a9.trans d8;refine bM (rB k3 b5) ?_;refine (Gr _ O R k3 (G.mono b5) eL UJ alR 0 om 1).mono ?_;rintro _ k4 ⟨N,_,c4⟩;obtain⟨uc,Sc,qc,rfl,k0,a3⟩:=N deC
 rw[ahH CW k0 deC λb y=>by
  rw[l3] at y;rw[w3 b 0 y om];obtain rfl|rfl|rfl:b=0\/b=1\/b=2:=om
  all_goals decide+kernel] at a3
 have b3:=b5.trans c4;refine bM (rB k4 b3) ?_;refine (Gr _ O R k4 (G.mono b3) eL UJ alR 3 om 0).mono ?_;rintro _ k5 ⟨_,N,a0⟩;obtain rfl:=N deC;have p4:=b3.trans a0;refine aT ?_
 replace a1:SR k2 ua [[1,0,6]]:=by
  have e:=cr 2 om;rwa [l3,e] at a1
 replace L:SR k3 ub [[1,3,2]]:=by
  have e:=cr 0 om;rwa [l3,e] at L
 replace a3:SR k4 uc [[1,0,0], [0,1,0], [0,0,1]]:=by
  rwa [show Ln.pU ([0,1,3]:List Nat).length ([0,1,3]:List Nat).length (λ_=>true) (λk j=>if j=k then 1 else 0)= [[1,0,0], [0,1,0], [0,0,1]] by decide+kernel] at a3
 clear w3 cr CW g2 i5 k0;refine (Mo 20 k5 om).mono ?_;rintro vx k6 ⟨ow,c3⟩;rcases ow with ⟨_,e⟩|⟨id,m,o,c,rfl,lm,i6,c8,u7,r6⟩
 .exact absurd e (by decide+kernel)
 rw[aE,bD,iF,jP] at lm;obtain rfl:m=20:=lm.symm
 obtain⟨r,P⟩: ∃r:Nat->List Int,r=λi=>(List.range 20).map λ(j:Nat)=>if j<i then (j:Int)+1 else (j:Int):=⟨_,rfl⟩
 have n: ∀i,(r i).length=20:=λi=>by rw[P];simp
 have l0:r 0=zi (bI 20):=by rw[P];decide+kernel
 have i3: ∀i,i<20->(r i).set i ((i:Int)+1)=r (i+1):=λi hi=>by
  refine List.ext_getElem (by rw[List.length_set,n,n]) λj h1 h2=>?_
  rw[n] at h2;rw[List.getElem_set];subst P;simp only[List.getElem_map,List.getElem_range];split
  .rename_i e;subst e;rw[aS om]
  .rename_i e
   by_cases e2:j<i
   .rw[aS e2,aS om]
   .rw[aQ e2,aQ om]
 refine aT ?_;refine dG (λvs d=>(∃g:Nat->V,vs= [g 0,g 1,g 2,g 3,g 4,g 5,g 6,g 7,g 8,g 9,g 10,g 11,g 12,g 13,g 14,.bool true,ua,aC 0,ub,aC 0,uc,aC 0,aC 2,.sl id 0 20 o,g 24,g 25,g 26,g 27])/\d.get id=some (.cells false (ints (r 20)++c))/\Fx (· =id) k6 d) ?_ ?_
 .refine aP (λk' vs d=> ∃i:Nat,(∃g:Nat->V,vs= [g 0,g 1,g 2,g 3,g 4,g 5,g 6,g 7,g 8,g 9,g 10,g 11,g 12,g 13,g 14,.bool true,ua,aC 0,ub,aC 0,uc,aC 0,aC 2,.sl id 0 20 o,aC i,g 25,g 26,g 27])/\i<=20/\d.get id=some (.cells false (ints (r i)++c))/\Fx (· =id) k6 d/\k'=20-i) 20
   ⟨0,aD rfl,fY _,by rw[l0];exact r6,Fx.refl _ _,rfl⟩ ?_
  rintro k' vs d ⟨i,⟨g,rfl⟩,hi,gi,F,rfl⟩
  by_cases d6:(i:Int)<20
  case neg=>
   have dd:=bZ d6;obtain rfl:i=20:=om
   simp(disch:=omega)only[go_sem,dd];exact⟨aD rfl,gi,F⟩
  have dd:=cV d6;have a6:i<20:=om
  have ix:Ci 1 (.sl id 0 20 o) (aC i)=some (.ptr id i):=by
   rw[lJ om om];congr 2;omega
  have pt:=bE (vs:=ints (r i)++c) (off:=i) (by rw[eE,aE,n];omega) d id (aC ((i:Int)+1));simp(disch:=omega)only[go_sem,dd,ix,gi,pt];rw[List.set_append_left _ _ (by rw[aE,n];exact a6),ints_set,i3 i a6,show (i:Int)+1=((i+1:Nat):Int) from om];exact⟨20-(i+1),om,i+1,aD rfl,om,rfl,F.trans (Fx.set d (W:=(· =id)) rfl _) λ_ _ h=>h,rfl⟩
 rintro vs k7 ⟨⟨g,rfl⟩,q5,d5⟩;have v9:=d5.next;obtain⟨k8,e8,n8,g8,o8⟩:=xN k7 id ((ints (r 20)++c).set 7 (aC 0));obtain⟨k9,e9,n9,g9,o9⟩:=xN k8 id (((ints (r 20)++c).set 7 (aC 0)).set 12 (aC 8));obtain⟨t,o3,v8,l4,m9⟩:=xN k9 id ((((ints (r 20)++c).set 7 (aC 0)).set 12 (aC 8)).set 19 (aC 13));have lr:20<=(ints (r 20)++c).length:=by rw[eE,aE,n];omega
 have q7:=bE (vs:=ints (r 20)++c) (off:=7) om k7 id (aC 0);have c7:=bE (vs:=(ints (r 20)++c).set 7 (aC 0)) (off:=12) (by rw[List.length_set];omega) k8 id (aC 8);have i8:=bE (vs:=((ints (r 20)++c).set 7 (aC 0)).set 12 (aC 8)) (off:=19) (by rw[List.length_set,List.length_set];omega) k9 id (aC 13);rw[e8] at q7;rw[e9] at c7;rw[o3] at i8
 have ix:(z:Int)->(k:Nat)->z=(k:Int)->k<20->Ci 1 (.sl id 0 20 o) (aC z)=some (.ptr id k):=λz k e hk=>by
  subst e;rw[lJ om om];congr 2;omega
 have lx:(((ints (r 20)++c).set 7 (aC 0)).set 12 (aC 8)).set 19 (aC 13)=ints (zi BZ)++c:=by
  rw[List.set_append_left _ _ (by rw[aE,n];omega),ints_set,List.set_append_left _ _ (by rw[aE,List.length_set,n];omega),ints_set,List.set_append_left _ _ (by rw[aE,List.length_set,List.length_set,n];omega),ints_set];congr 2;rw[P];decide+kernel
 rw[lx] at l4;have d9:dF t (.sl id 0 20 o) 1 (ints (zi BZ)) k5.next:= .inr ⟨id,20,o,c,rfl,by decide+kernel,i6,c8,om,l4⟩;have sx:SI t (.sl id 0 20 o) (zi BZ):=d9.sv
 have i9:Fr k5 t:=⟨by have:=c3.next;omega,λq hq=>by rw[m9 q om,o9 q om,o8 q om,d5.get q (by have:=c3.next;omega) (by show q≠id;omega),c3.get q hq]⟩
 obtain⟨W,hW⟩:=exI t.next;obtain⟨g0,u0,v5,q8,u8,j0⟩:=iI hW [.sl id 0 20 o];have h0:SP g0 (.sl W 0 1 (.kn 1)) [BZ]:=SP.amI (a:=BZ) (h:=t) sx om j0 q8 _;simp(disch:=omega)only[go_sem,ix 7 7 rfl om,q5,q7,ix 12 12 rfl om,g8,c7,ix 19 19 rfl om,g9,i8,dL t (z:= .aH) (v:= .sl id 0 20 o) rfl rfl,hW,u0];refine (Py 300 20 _ [BZ] g0 om om om Ql deC ahR h0).mono ?_;rintro vE m4 ⟨A,EA,lA,sE,r7⟩;refine aT ?_;refine (Ma vE 20 _ A m4 om om (fG.kT Ql) EA om sE).mono ?_;rintro vC l9 ⟨O9,R9,t9,a5,q3⟩
 have K:GC (λid=>id<m4.next) l9 vC 20 O9 R9 (fG 20 (· ∈ [BZ])):=⟨t9,a5,fG.kT Ql,om,om,aaB (fG.kT Ql) a5 EA om,alY⟩
 obtain⟨zO,zR,rfl,u5,p9,_,_⟩:=K.sl;obtain⟨K9,l5⟩:=ajZ 20 (fG 20 (· ∈ [BZ])) A;have s1:cK O9 R9 20 0 (bI 20)=A:=(dV K.kT K.isc).1.uniq EA;refine aT ?_;refine (DT (e:=5) (20:Nat) zO zR u5 p9 l9 deC λd f=>UY _ 20 O9 R9 _ d (K.mono f) A s1 K9 l5 (aeM EA l5)).mono ?_;rintro _ d7 ⟨rfl,t2⟩;have F5:Fr k5 d7:=i9.trans (j0.trans (r7.trans (q3.trans t2)));obtain⟨U,hU⟩:=exI d7.next;obtain⟨m1,u6,c5,u1,j6⟩:=EZ hU [1,0,6];obtain⟨m2,t5,v2,q9,v7,c1⟩:=iI c5 [.sl U 0 3 (.kn 3)]
 have sM:SR m2 (.sl (U+1) 0 1 (.kn 1)) [[1,0,6]]:=⟨_,SV.all rfl om q9 _,u1.mono c1,trivial⟩
 refine wE hU u6 @Ta (dL m1 (z:= .aH) (v:= .sl U 0 3 (.kn 3)) rfl rfl) c5 t5 ?_;refine (afT ua _ _ _ m2 (a1.mono (d8.trans (c4.trans (a0.trans (F5.trans (j6.trans c1)))))) sM deC deC deC deC).mono ?_;rintro _ m3 ⟨rfl,m7⟩;have F3:=F5.trans (j6.trans (c1.trans m7))
 obtain⟨U2,f7⟩: ∃U,m3.next=U:=⟨_,rfl⟩
 obtain⟨p1,n1,c9,l1,i4⟩:=EZ f7 [1,3,2];obtain⟨p2,n2,v4,s5,v0,b4⟩:=iI c9 [.sl U2 0 3 (.kn 3)]
 have p6:SR p2 (.sl (U2+1) 0 1 (.kn 1)) [[1,3,2]]:=⟨_,SV.all rfl om s5 _,l1.mono b4,trivial⟩
 simp(disch:=omega)only[go_sem,eq_self,decide_true,f7,n1,Ta,dL p1 (z:= .aH) (v:= .sl U2 0 3 (.kn 3)) rfl rfl,c9,n2];refine (afT ub _ _ _ p2 (L.mono (c4.trans (a0.trans (F3.trans (i4.trans b4))))) p6 deC deC deC deC).mono ?_;rintro _ p3 ⟨rfl,u4⟩;have F4:=F3.trans (i4.trans (b4.trans u4))
 obtain⟨U3,d0⟩: ∃U,p3.next=U:=⟨_,rfl⟩
 obtain⟨r1,p8,f0,s7,t1⟩:=EZ d0 [1,0,0];obtain⟨r2,r0,g3,m6,j8⟩:=EZ f0 [0,1,0];obtain⟨r3,t6,j9,q6,b9⟩:=EZ g3 [0,0,1];obtain⟨r4,t3,w0,p0,u9,a4⟩:=iI j9 [.sl U3 0 3 (.kn 3),.sl (U3+1) 0 3 (.kn 3),.sl (U3+1+1) 0 3 (.kn 3)]
 have r9:SR r4 (.sl (U3+1+1+1) 0 3 (.kn 3)) [[1,0,0], [0,1,0], [0,0,1]]:=⟨_,SV.all rfl om p0 _,((s7.mono j8).mono b9).mono a4,(m6.mono b9).mono a4,q6.mono a4,trivial⟩
 have l8:=t1.trans (j8.trans (b9.trans a4));simp(disch:=omega)only[go_sem,eq_self,decide_true,d0,p8,f0,Ta,r0,g3,t6,j9,TM _ (pG ..) (pG ..) (pG ..),t3];refine (afT uc _ _ _ r4 (a3.mono (a0.trans (F4.trans l8))) r9 deC deC deC deC).mono ?_;rintro _ r5 ⟨rfl,s4⟩;simp(disch:=omega)only[go_sem,eq_self,decide_true];exact (s2.trans p4).trans (F4.trans (l8.trans s4))
end Go.Proofs.YtoighkablmjfeaaGreat
namespace Go.Ay
open Go Go.Sort Go.Proofs Go.Shelf
section
variable {w:World} {P:Program} {ρ:Ren}
theorem Xr {a:Array Obj}{b:Nat}(c:b<w.heap.size):(grow w a).heap[b]? =w.heap[b]? :=Array.getElem?_append_left c
theorem iR.grow {P:Program}{m:M}{h:H}{w:World}(d:HR P m h w)(i:Array Obj):iR P m h w m h (grow w i):=by
 refine⟨Ext.refl m,⟨λid j a=>?_,d.inj⟩,λ_ _ h=> .inl h,⟨rfl,rfl,rfl,by simp [Sort.grow],λb k _=>Xr k⟩,λ_ h=> .inl h,dN _,λ_ h=> .inl h,λ_ _ h=>h⟩;obtain⟨q,f,c⟩:=d.live id j a;exact⟨q,f,OR.mono (Ext.refl m) (Xr c.lt) c⟩
theorem acP {vs:List V}(h:vs.all isI=true){i:Nat}{v:V}(hi:vs[i]? =some v):v= .int .i64 (unI v):=by
 have:=uR.1 h v (HP hi)
 cases v with
 |int k n=>cases k<;>simp [isI] at this;rfl
 |_=>simp [isI] at this
theorem AJ (L:SlLaysM.n5 P ρ){args:List V}{h h':H}{v:V}(a:Pu args h=some (v,h')){m:M}{xs:Array Value}(N:iL m args xs.toList)(K:HR P m h w)(hl:Na m h.next):
  Calls P (ρ.f 5) xs w (zS P m h w v h'):=by
 unfold Pu at a
 split at a
 .rename_i hh id len a0
  match hq:xs.toList,N with
  | [x],N=>
  obtain⟨⟨p,c,o',Y,rfl,hc,ho,_⟩,_⟩:=N
  obtain rfl:xs= #[.slice (some ⟨p.1,p.2.1+o',none⟩) len c]:=by apply Array.toList_inj.1;rw[hq]
  split at a
  .rename_i R
   cases a
   subst R
   refine (AnyM.slices_Sort_int_none L _ c w).mono λe w' ⟨o,k⟩=>?_
   subst o k
   exact⟨_,m,rfl,⟨_,rfl,trivial⟩,iR.refl K hl.fresh⟩
  .rename_i R
   obtain rfl:=ho om
   split at a
   .rename_i d U
    split at a
    .rename_i hk
     have⟨r,t,s⟩:=hk
     cases a
     obtain⟨q,u,W,el,fr,l,J,Q,hv,F⟩:=K.live id _ U
     rw[Y] at u;cases u
     obtain rfl:=F rfl
     have B:=(Vm.1 l).1
     have cell: ∀i,i<d.length->W[p.2.1+i]? =some (.int .i64 ((d.map unI).getD i 0)):=λi hi=>by
      obtain⟨_,x,o,k⟩:=hv i _ (dJ hi);have e:=acP t (dJ hi);rw[e] at k;rw[o,show x=_ from k];simp [hi]
     have hh:Holds (Value.int .i64) w p.1 (p.2.1+0) (d.map unI).toArray:=λj A=>by
      have A:j<d.length:=by simpa using A
      have e1:=cell j A;refine⟨?_,?_⟩
      .simp only[World.cell?,l,Nat.add_zero,e1]
       simp [A]
      .simp [World.frozen?,l]
     have hn:(d.map unI).length=len:=by simpa using r
     have ct:=AnyM.slices_Sort_int L p.1 (p.2.1+0) c (d.map unI) w hh B (by rw[hn];exact s)
     rw[hn] at ct
     refine ct.mono λe w' ⟨o,n,os,k⟩=>?_
     subst o
     obtain⟨S,O⟩: ∃S,(d.map unI).mergeSort (λx y=>decide (x<=y))=S:=⟨_,rfl⟩
     rw[O] at k
     have lS:S.length=d.length:=by rw[<-O];simp
     have hw:(putRow (Value.int .i64) (Sort.ahead w n) p.1 (p.2.1+0) S.toArray).heap[p.1]? =some (.cells (putCells (Value.int .i64) (p.2.1+0) S.toArray W) el (0,0)):=by
      show (w.heap.modify p.1 _)[p.1]? =_;rw[Array.getElem?_modify,aS rfl,l];rfl
     have Zv:=iR.put (w':=putRow (Value.int .i64) (Sort.ahead w n) p.1 (p.2.1+0) S.toArray) K hl.fresh U rfl (o':= .cells false (S.map (.int .i64))) rfl Y
      ⟨_,el,(0,0),hw,by simp [putCells,J],by rw[dO,lS];exact Q,λi v hi=>by
       rw[Al] at hi;obtain⟨z,Z,rfl⟩:=kU.1 hi;have G:=(Iq.1 Z).1;refine⟨rfl,.int .i64 z,?_,rfl⟩;unfold putCells;rw[Array.getElem?_mapIdx,cell i om];simp only[Option.map_some,Nat.add_zero];rw[aS ⟨om,siO⟩];rw[show p.2.1+i-p.2.1=i by omega];have:=(Iq.1 Z).2
       simp [G,this],λ_=>rfl⟩
      rfl rfl rfl (by show (w.heap.modify p.1 _).size=_;simp) (λb l=>by show (w.heap.modify p.1 _)[b]? =_;rw[Array.getElem?_modify,aQ (Ne.symm l)])
     subst k
     rw[O]
     exact⟨_,m,rfl,⟨_,rfl,trivial⟩,Zv.trans (iR.grow Zv.rel os)⟩
    .cases a
   .cases a
 .cases a
theorem Xm (L:SlLaysM.n5 P ρ):enters P (ρ.f 5)=true:=by
 obtain⟨c,a,b⟩:=L.f5;unfold enters;rw[b];simp only[Option.any_some,bne,a]
 rfl
theorem akF (L:SlLaysM.n5 P ρ):TR P (ρ.f 5):=λ_ _ _ _ a=>⟨Xm L,λ_ _ _ c d b=>callsIn_wide.2 (AJ L a c d b)⟩
end
end Go.Ay
