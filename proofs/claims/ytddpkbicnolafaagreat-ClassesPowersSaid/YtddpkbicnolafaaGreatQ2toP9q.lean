/- Texts of the claim. -/
import Derived.Test.YtddpkbicnolafaaGreatSc6toQ1
import Derived.Test.YtddpkbicnolafaaGreatP5otoSc5
set_option maxHeartbeats 64000000
namespace Go.Proofs.YtddpkbicnolafaaGreat
open Go Go.Ay Go.Pm
set_option maxRecDepth 100000
def QN (n:Nat)(x:List Nat):Nat->Nat->Nat
 |0,k=>k
 |f+1,k=>if pw n x k=cJ n then k else QN n x f (k+1)
def Pf (n:Nat)(x:List Nat):Nat:=QN n x 420 1
theorem AR {n:Nat}{x:List Nat}(X:bY n x): ∀f k,0<k->k<=fM x n->fM x n<=k+f->QN n x f k=fM x n
 |0,k,_,h1,h2=>by show k=_;omega
 |f+1,k,h0,h1,h2=>by
  unfold QN;split
  ·rename_i e
   exact Nat.le_antisymm h1 (Nat.le_of_dvd h0 ((tH X k).2 e))
  ·rename_i e
   refine AR X f (k+1) (by omega) ?_ (by omega)
   by_cases h:k=fM x n
   ·exact absurd ((tH X k).1 (by rw[h];exact Nat.dvd_refl _)) e
   ·omega
theorem TA {n:Nat}{x:List Nat}(X:bY n x)(hn:n<=7):fM x n=Pf n x:=
 (AR X 420 1 (by omega) (vH X) (by have:=Nat.le_of_dvd (by omega) (Cj X hn);omega)).symm
def ZS (L:LN)(i j:Nat):Bool:=L.any λc=>oI (L.getD i []) c==L.getD j []
def Yd (L:LN)(i:Nat):List Nat:=(List.range L.length).filter (ZS L i)
def Va (L:LN):List Nat:=(List.range L.length).filter λj=>(List.range j).all λi=>!ZS L i j
def XL (L:LN)(K:List Nat)(j:Nat):Nat:=K.findIdx λr=>ZS L r j
def XV (n:Nat)(L:LN)(r s:Nat):Bool:=decide (Pf n (L.getD r [])<Pf n (L.getD s [])∨Pf n (L.getD r [])=Pf n (L.getD s [])/\((Yd L r).length<(Yd L s).length∨(Yd L r).length=(Yd L s).length/\r<s))
def JR (n:Nat)(L:LN)(K:List Nat)(z:Int)(r:Nat):Nat:=XL L K (L.idxOf (pw n (L.getD r []) (z%(Pf n (L.getD r []):Nat)).toNat))
def XJ (n:Nat)(L:LN)(K:List Nat):Nat:=jS (K.map λr=>Pf n (L.getD r []))
section
variable {n:Nat} {G:List Nat->Prop} {L:LN} {K:List Nat}
theorem WL (E:iR G L){x y:List Nat}:cj G x y↔(L.any λc=>oI x c==y)=true:=by
 rw[List.any_eq_true];constructor
 ·rintro⟨c,hc,e⟩
  exact⟨c,(E.mem c).2 hc,by simpa using e⟩
 ·rintro⟨c,hc,e⟩
  exact⟨c,(E.mem c).1 hc,by simpa using e⟩
theorem Yq (E:iR G L){i j:Nat}:cR G L i j↔ZS L i j=true:=WL E
theorem HH (E:iR G L)(i j:Nat)(d:Decidable (cR G L i j)): @decide (cR G L i j) d=ZS L i j:=by
 rw[Bool.eq_iff_iff,decide_eq_true_iff];exact Yq E
theorem Og (E:iR G L)(i:Nat):kF G L i=Yd L i:=by
 unfold kF Yd;exact List.filter_congr λj _=>HH E i j _
theorem NN (E:iR G L):cE G L L.length=Va L:=by
 unfold cE Va;refine List.filter_congr λj _=>?_
 classical
 rw[Bool.eq_iff_iff,decide_eq_true_iff,List.all_eq_true];unfold Lf;constructor
 ·intro h i hi
  have:=h i (Ot.1 hi);rw[Yq E] at this;simpa using this
 ·intro h i hi
  have:=h i (Ot.2 hi);rw[Yq E];simpa using this
theorem QG (E:iR G L)(j:Nat):oU G L K j=XL L K j:=by
 unfold oU XL;congr 1;funext r;exact HH E r j _
theorem abB (hG:tP n G)(E:iR G L): ∀x∈L,bY n x:=λx hx=>hG.fA ((E.mem x).1 hx)
theorem Jl (hG:tP n G)(E:iR G L)(hn:n<=7){r:Nat}(hr:r<L.length):fM (L.getD r []) n=Pf n (L.getD r []):=TA (abB hG E _ (bD hr)) hn
theorem RL (hG:tP n G)(E:iR G L)(hn:n<=7){r s:Nat}(hr:r<L.length)(hs:s<L.length):Qb n G L r s↔XV n L r s=true:=by
 unfold Qb XV;rw[decide_eq_true_iff,Jl hG E hn hr,Jl hG E hn hs,Og E,Og E]
def OL (n:Nat)(L:LN)(K:List Nat):Bool:=K.isPerm (Va L)&&decide (K.Pairwise λr s=>XV n L r s=true)
theorem OL.isK (hG:tP n G)(E:iR G L)(hn:n<=7)(h:OL n L K=true):Ck n G L K:=by
 unfold OL at h;rw[Bool.and_eq_true,decide_eq_true_iff] at h;have p:K.Perm (Va L):=List.isPerm_iff.1 h.1
 have hm: ∀r∈K,r<L.length:=λr hr=>by
  have:=p.mem_iff.1 hr;unfold Va at this;exact Ot.1 (GQ.1 this).1
 exact⟨by rw[NN E];exact p,List.Pairwise.imp_of_mem (λhr hs h=>(RL hG E hn (hm _ hr) (hm _ hs)).2 h) h.2⟩
theorem OL.eq (hG:tP n G)(E:iR G L)(hn:n<=7){K0:List Nat}(h:OL n L K0=true)(k:Ck n G L K):K=K0:=k.uniq (OL.isK hG E hn h)
theorem IC (hG:tP n G)(E:iR G L)(hn:n<=7)(z:Int){r:Nat}(hr:r<L.length):rH n G L K z r=JR n L K z r:=by
 unfold rH JR;rw[QG E,Jl hG E hn hr]
theorem OT (hG:tP n G)(E:iR G L)(hn:n<=7)(k:Ck n G L K):DF n L K=XJ n L K:=by
 unfold DF XJ;congr 1;exact List.map_congr_left λr hr=>Jl hG E hn (k.lt hr)
end
def abL (n:Nat)(S:LN)(w:List Nat):List Nat:=w.foldl (λx i=>bE x (S.getD i [])) (cJ n)
theorem Sg {n:Nat}{S:LN}: ∀(w:List Nat) (x:List Nat),(∀i∈w,i<S.length)->gO n (· ∈S) x->gO n (· ∈S) (w.foldl (λx i=>bE x (S.getD i [])) x)
 | [],_,_,h=>h
 |i::w,x,hw,h=>Sg w _ (λj hj=>hw j (by simp [hj])) (h.mul (bD (hw i (by simp))))
def NF (n:Nat)(S L:LN)(ws:LN):Bool:=
 L==ws.map (abL n S)&&ws.all (λw=>w.all λi=>decide (i<S.length))&&decide (L.Pairwise λx y=>tK x y=true)&&L.all (λx=>x.length==n)&&L.contains (cJ n)&&L.all λx=>S.all λg=>L.contains (bE x g)
theorem NF.aaF {n:Nat}{S L:LN}{ws:LN}(h:NF n S L ws=true):iR (gO n (· ∈S)) L:=by
 unfold NF at h;simp only[Bool.and_eq_true,beq_iff_eq,List.all_eq_true,decide_eq_true_iff,List.contains_iff_mem] at h;obtain⟨⟨⟨⟨⟨h1,h2⟩,h3⟩,h4⟩,h5⟩,h6⟩:=h;refine⟨List.Pairwise.imp_of_mem (λhx hy h=>(mW (by rw[h4 _ hx,h4 _ hy])).1 h) h3,λx=>⟨λhx=>?_,λhx=>?_⟩⟩
 ·rw[h1] at hx
  obtain⟨w,hw,rfl⟩:=xU.1 hx;exact Sg w _ (h2 w hw) .one
 ·induction hx with
  |one=>exact h5
  |mul _ hg ih=>exact h6 _ ih _ hg
def S3:LN:= [[1,0,2], [0,2,1]]
def C4:LN:= [[1,2,3,0]]
def A4:LN:= [[1,2,0,3], [0,2,3,1]]
def L3:LN:= [[0,1,2], [0,2,1], [1,0,2], [1,2,0], [2,0,1], [2,1,0]]
def L4:LN:= [[0,1,2,3], [1,2,3,0], [2,3,0,1], [3,0,1,2]]
theorem Up:iR (gO 3 (· ∈S3)) L3:=NF.aaF (ws:= [[], [1], [0], [1,0], [0,1], [0,1,0]]) (by decide+kernel)
theorem JE:iR (gO 4 (· ∈C4)) L4:=NF.aaF (ws:= [[], [0], [0,0], [0,0,0]]) (by decide+kernel)
theorem VT:OL 3 L3 [0,1,3]=true:=by decide+kernel
theorem aaM:OL 4 L4 [0,2,1,3]=true:=by decide+kernel
def Ul (n:Nat)(x:List Nat):Bool:=x.length==n&&decide x.Nodup&&x.all λp=>decide (p<n)
theorem Jo {n:Nat}{x:List Nat}(h:Ul n x=true):bY n x:=by
 unfold Ul at h;simp only[Bool.and_eq_true,beq_iff_eq,List.all_eq_true,decide_eq_true_iff] at h;exact⟨h.1.1,h.1.2,h.2⟩
theorem abH: ∀g∈S3,bY 3 g:=λg hg=>Jo ((List.all_eq_true.1 (show S3.all (Ul 3)=true by decide+kernel)) g hg)
theorem abD: ∀g∈C4,bY 4 g:=λg hg=>Jo ((List.all_eq_true.1 (show C4.all (Ul 4)=true by decide+kernel)) g hg)
theorem aaR: ∀g∈A4,bY 4 g:=λg hg=>Jo ((List.all_eq_true.1 (show A4.all (Ul 4)=true by decide+kernel)) g hg)
def aaE (n:Nat)(L:LN)(K:List Nat):List (List Int×Nat×Nat):=K.map λr=>(zi (L.getD r []),Pf n (L.getD r []),(Yd L r).length)
theorem Un {n:Nat}{G:List Nat->Prop}{L:LN}{h:H}(hG:tP n G)(E:iR G L)(hn:n<=7): ∀{ks:List Cls.KE} {K:List Nat},(∀r∈K,r<L.length)->aZ (KR n G L h) ks K->aZ (EV h) ks (aaE n L K)
 | [], [],_,_=>trivial
 | [],_::_,_,h=>h.elim
 |_::_, [],_,h=>h.elim
 |a::ks,r::K,hK,h=>⟨⟨h.1.rep,h.1.ord.trans (Jl hG E hn (hK r (by simp))),h.1.size.trans (by rw[Og E])⟩,Un hG E hn (λr hr=>hK r (by simp [hr])) h.2⟩
theorem IS (h:H)(x y z:Int):uY h 1 [aB 0] 3 [(0,1,aB x),(1,1,aB y),(2,1,aB z)]=some (.sl h.next 0 3 (.kn 3),h.new (.cells false (ints [x,y,z]))):=by
 have e:dV [aB 0] 3= [aB 0,aB 0,aB 0]:=rfl;simp [uY,jY,e,putAt,V.cells,V.one,ints]
theorem Xh (h:H)(x y z w:Int):uY h 1 [aB 0] 4 [(0,1,aB x),(1,1,aB y),(2,1,aB z),(3,1,aB w)]=some (.sl h.next 0 4 (.kn 4),h.new (.cells false (ints [x,y,z,w]))):=by
 have e:dV [aB 0] 4= [aB 0,aB 0,aB 0,aB 0]:=rfl;simp [uY,jY,e,putAt,V.cells,V.one,ints]
theorem NY (h:H){v u:V}(hv:v.cells= [v]/\v.one=true)(hu:u.cells= [u]/\u.one=true):uY h 1 [.aC] 2 [(0,1,v),(1,1,u)]=some (.sl h.next 0 2 (.kn 2),h.new (.cells false [v,u])):=by
 have e:dV [V.aC] 2= [.aC,.aC]:=rfl;simp [uY,jY,e,putAt,hv.1,hv.2,hu.1,hu.2]
theorem Cd (id o m:Nat)(c:rL):(V.sl id o m c).cells= [.sl id o m c]/\(V.sl id o m c).one=true:=⟨rfl,rfl⟩
theorem RE {h:H}{ID:Nat}(hid:h.next=ID)(l:List Int): ∃x,h.new (.cells false (ints l))=x/\x.next=ID+1/\SI x (.sl ID 0 l.length (.kn l.length)) l/\Fr h x:=by
 obtain⟨x,e,n,g,o,f⟩:=fR hid (ints l);exact⟨x,e,n,SV.all (by rw[aM,Nat.mul_one]) (by omega) g _,f⟩
theorem SP.two {h h':H}{id:Nat}{v u:V}{a b:List Nat}(hv:SI h v (zi a))(hu:SI h u (zi b))(hid:id<h'.next)(f:Fr h h')(g:h'.get id=bX [v,u])(cap:rL):SP h' (.sl id 0 2 cap) [a,b]:=
 ⟨[v,u],SV.all rfl hid g _,hv.mono f,hu.mono f,trivial⟩
theorem SP.aaW {h h':H}{id:Nat}{v:V}{a:List Nat}(hv:SI h v (zi a))(hid:id<h'.next)(f:Fr h h')(g:h'.get id=bX [v])(cap:rL):SP h' (.sl id 0 1 cap) [a]:=
 ⟨[v],SV.all rfl hid g _,hv.mono f,trivial⟩
theorem GC.sl {W:Nat->Prop}{h:H}{vc:V}{n:Nat}{O:LN}{R:oJ}{G:List Nat->Prop}(g:GC W h vc n O R G): ∃vO vR,vc= .agg [aB n,vO,vR]/\vO.one=true/\vR.one=true/\eG vO vO=true/\eG vR vR=true:=by
 obtain⟨vO,vR,wsO,wsR,e,t1,_,_,t2,_,_⟩:=g.cw;exact⟨vO,vR,e,t1.dS.2.1,t2.dS.2.1,t1.eG,t2.eG⟩
theorem FO (h:H):Ev T 33 [] h (λv h'=> ∃c1 c2 c3 O1 R1 O2 R2 O3 R3,v= .tup [c1,c2,c3]/\GC (λid=>id<h.next) h' c1 3 O1 R1 (gO 3 (· ∈S3))/\GC (λid=>id<h.next) h' c2 4 O2 R2 (gO 4 (· ∈C4))/\GC (λid=>id<h.next) h' c3 4 O3 R3 (gO 4 (· ∈A4))/\Fr h h'):=by
 refine bP sJ rfl rfl ?_;obtain⟨B,hB⟩:=exI h.next;obtain⟨h1,e1,n1,g1,o1,f1⟩:=fR hB [aB 0,.aC,.aC];obtain⟨h2,e2,n2,g2,o2,f2⟩:=fR n1 [aB 0,.aC,.aC];obtain⟨h3,e3,n3,g3,o3,f3⟩:=fR n2 [aB 0,.aC,.aC];obtain⟨h4,e4,n4,s4,f4⟩:=RE n3 [1,0,2];obtain⟨h5,e5,n5,s5,f5⟩:=RE n4 [0,2,1];obtain⟨h6,e6,n6,g6,o6,f6⟩:=fR n5 [.sl (B+1+1+1) 0 3 (.kn 3),.sl (B+1+1+1+1) 0 3 (.kn 3)];have F03:=(f1.trans f2).trans f3;have F36:=(f4.trans f5).trans f6;have sp6:SP h6 (.sl (B+1+1+1+1+1) 0 2 (.kn 2)) S3:=SP.two (a:= [1,0,2]) (b:= [0,2,1]) (h:=h5) (s4.mono f5) s5 (by omega) f6 g6 _;simp(disch:=omega)only[go_sem,sJ,aE,hB,e1,n1,e2,n2,e3,n3,IS,e4,n4,e5,n5,NY _ (Cd ..) (Cd ..),e6];refine (Dh _ 3 S3 h6 (by omega) (by omega) (by decide) sp6 abH).mono ?_;rintro _ h7 ⟨c1,O1,R1,rfl,gc1,f7⟩;have x1:=gc1.sl;obtain⟨u1,w1,rfl,a1,b1,ea1,eb1⟩:=x1;have n7:=f7.next;have g7:h7.get B=bX [aB 0,.aC,.aC]:=by rw[f7.get B (by omega),F36.get B (by omega),o3 B (by omega),o2 B (by omega)];exact g1
 obtain⟨h8,e8,n8,g8,o8⟩:=xX h7 B [aB (3:Nat),u1,w1];obtain⟨Q,hQ⟩:=exI h7.next;rw[hQ] at n8;obtain⟨h9,e9,n9,s9,f9⟩:=RE n8 [1,2,3,0];obtain⟨h10,e10,n10,g10,o10,f10⟩:=fR n9 [.sl Q 0 4 (.kn 4)];have F810:=f9.trans f10;have sp10:SP h10 (.sl (Q+1) 0 1 (.kn 1)) C4:=SP.aaW (a:= [1,2,3,0]) (h:=h9) s9 (by omega) f10 g10 _;have st1:=gI h7 B 0 (v:= aB (3:Nat)) (u:=u1) (w:=w1) rfl a1 b1;simp(disch:=omega)only[go_sem,st1,g7,gZ,e8,n8,Xh,e9,n9,dB _ (z:= .aC) (v:= .sl Q 0 4 (.kn 4)) rfl rfl,e10];have F03n:=F03.next
 have W3: ∀{a c:H},a.next<=c.next->(∀id,B+3<=id->id<a.next->c.get id=a.get id)->Fx (λid=>id<B+3) a c:=λhn hg=>⟨hn,λid h1 h2=>hg id (by omega) h1⟩
 have gcA:GC (λid=>id<B+3) h8 _ 3 O1 R1 _:=gc1.go (⟨by omega,λid h1 h2=>o8 id (by omega)⟩:Fx (λid=>id<h6.next) h7 h8) (λid h1 h2=>by omega);refine (Dh _ 4 C4 h10 (by omega) (by omega) (by decide) sp10 abD).mono ?_;rintro _ h11 ⟨c2,O2,R2,rfl,gc2,f11⟩;have x2:=gc2.sl;obtain⟨u2,w2,rfl,a2,b2,ea2,eb2⟩:=x2;have n11:=f11.next;have F811:=F810.trans f11;have g23:h3.get (B+1)=bX [aB 0,.aC,.aC]:=by rw[o3 _ (by omega)];exact g2
 have g711: ∀id,id<B+3->id≠B->h11.get id=h3.get id:=λid hid hne=>by rw[F811.get id (by omega),o8 id hne,f7.get id (by omega),F36.get id (by omega)]
 obtain⟨h12,e12,n12,g12,o12⟩:=xX h11 (B+1) [aB (4:Nat),u2,w2];obtain⟨P,hP⟩:=exI h11.next;rw[hP] at n12;have gcB:GC (λid=>id<B+3) h12 _ 4 O2 R2 _:=gc2.go (⟨by omega,λid h1 h2=>o12 id (by omega)⟩:Fx (λid=>id<h10.next) h11 h12) (λid h1 h2=>by omega);obtain⟨h13,e13,n13,s13,f13⟩:=RE n12 [1,2,0,3];obtain⟨h14,e14,n14,s14,f14⟩:=RE n13 [0,2,3,1];obtain⟨h15,e15,n15,g15,o15,f15⟩:=fR n14 [.sl P 0 4 (.kn 4),.sl (P+1) 0 4 (.kn 4)];have F1215:=(f13.trans f14).trans f15;have sp15:SP h15 (.sl (P+1+1) 0 2 (.kn 2)) A4:=SP.two (a:= [1,2,0,3]) (b:= [0,2,3,1]) (h:=h14) (s13.mono f14) s14 (by omega) f15 g15 _;have st2:=gI h11 (B+1) 0 (v:= aB (4:Nat)) (u:=u2) (w:=w2) rfl a2 b2;have g11b:h11.get (B+1)=bX [aB 0,.aC,.aC]:=by rw[g711 _ (by omega) (by omega)];exact g23
 simp(disch:=omega)only[go_sem,st2,g11b,gZ,e12,n12,Xh,e13,n13,e14,n14,NY _ (Cd ..) (Cd ..),e15];refine (Dh _ 4 A4 h15 (by omega) (by omega) (by decide) sp15 aaR).mono ?_;rintro _ h16 ⟨c3,O3,R3,rfl,gc3,f16⟩;have x3:=gc3.sl;obtain⟨u3,w3,rfl,a3,b3,ea3,eb3⟩:=x3;have n16:=f16.next;have F1216:=F1215.trans f16;obtain⟨h17,e17,n17,g17,o17⟩:=xX h16 (B+1+1) [aB (4:Nat),u3,w3];have gcC:GC (λid=>id<B+3) h17 _ 4 O3 R3 _:=gc3.go (⟨by omega,λid h1 h2=>o17 id (by omega)⟩:Fx (λid=>id<h15.next) h16 h17) (λid h1 h2=>by omega);have st3:=gI h16 (B+1+1) 0 (v:= aB (4:Nat)) (u:=u3) (w:=w3) rfl a3 b3;have g16c:h16.get (B+1+1)=bX [aB 0,.aC,.aC]:=by rw[F1216.get _ (by omega),o12 _ (by omega),g711 _ (by omega) (by omega)];exact g3
 have gA:h17.get B=bX [aB (3:Nat),u1,w1]:=by rw[o17 B (by omega),F1216.get B (by omega),o12 B (by omega),F811.get B (by omega)];exact g8
 have gB:h17.get (B+1)=bX [aB (4:Nat),u2,w2]:=by rw[o17 _ (by omega),F1216.get _ (by omega)];exact g12
 obtain⟨hb,ehb,nhb⟩: ∃hb:H,H.mk h17.tr (h17.next+6)=hb/\hb.next=h17.next+6:=⟨_,rfl,rfl⟩
 have fb:Fr h17 hb:=by rw[←ehb];exact (Fr.refl h17).bF (by omega)
 obtain⟨h18,e18,n18,g18,o18⟩:=xX hb B [aB (3:Nat),u1,w1];obtain⟨h19,e19,n19,g19,o19⟩:=xX h18 (B+1) [aB (4:Nat),u2,w2];obtain⟨h20,e20,n20,g20,o20⟩:=xX h19 (B+1+1) [aB (4:Nat),u3,w3];have bA:hb.get B=bX [aB (3:Nat),u1,w1]:=by rw[fb.get _ (by omega)];exact gA
 have bB:hb.get (B+1)=bX [aB (4:Nat),u2,w2]:=by rw[fb.get _ (by omega)];exact gB
 have bC:hb.get (B+1+1)=bX [aB (4:Nat),u3,w3]:=by rw[fb.get _ (by omega)];exact g17
 have k18B:h18.get (B+1)=bX [aB (4:Nat),u2,w2]:=by rw[o18 _ (by omega)];exact bB
 have k18C:h18.get (B+1+1)=bX [aB (4:Nat),u3,w3]:=by rw[o18 _ (by omega)];exact bC
 have k19C:h19.get (B+1+1)=bX [aB (4:Nat),u3,w3]:=by rw[o19 _ (by omega)];exact k18C
 have k20A:h20.get B=bX [aB (3:Nat),u1,w1]:=by rw[o20 _ (by omega),o19 _ (by omega)];exact g18
 have k20B:h20.get (B+1)=bX [aB (4:Nat),u2,w2]:=by rw[o20 _ (by omega)];exact g19
 simp(disch:=omega)only[go_sem,st3,g16c,gZ,e17,aU gA,aU gB,aU g17];rw[ehb];have t1:=gI hb B 0 (v:= aB (3:Nat)) (u:=u1) (w:=w1) rfl a1 b1;have t2:=gI h18 (B+1) 0 (v:= aB (4:Nat)) (u:=u2) (w:=w2) rfl a2 b2;have t3:=gI h19 (B+1+1) 0 (v:= aB (4:Nat)) (u:=u3) (w:=w3) rfl a3 b3;have q1:eG (.agg [aB (3:Nat),u1,w1]) (.agg [aB (3:Nat),u1,w1])=true:=by simp [eG,tS,ea1,eb1]
 have q2:eG (.agg [aB (4:Nat),u2,w2]) (.agg [aB (4:Nat),u2,w2])=true:=by simp [eG,tS,ea2,eb2]
 have q3:eG (.agg [aB (4:Nat),u3,w3]) (.agg [aB (4:Nat),u3,w3])=true:=by simp [eG,tS,ea3,eb3]
 simp(disch:=omega)only[go_sem,t1,bA,gZ,e18,aU k18B,aU k18C,t2,k18B,e19,aU k19C,t3,k19C,e20,q1,q2,q3,aU k20A,aU k20B,aU g20]
 have X1:Fx (λid=>id<B+3) h8 h17:=⟨by omega,λid h1 h2=>by rw[o17 id (by omega),F1216.get id (by omega),o12 id (by omega),F811.get id (by omega)]⟩
 have X2:Fx (λid=>id<B+3) h12 h17:=⟨by omega,λid h1 h2=>by rw[o17 id (by omega),F1216.get id (by omega)]⟩
 have X3:Fx (λid=>id<B+3) h17 h20:=⟨by omega,λid h1 h2=>by rw[o20 id (by omega),o19 id (by omega),o18 id (by omega),fb.get id (by omega)]⟩
 have low: ∀{v n O R G},GC (λid=>id<B+3) h17 v n O R G->GC (λid=>id<B) h20 v n O R G:=λg=>g.go X3 (λid _ hid=>by omega)
 refine⟨_,_,_,O1,R1,O2,R2,O3,R3,rfl,low (gcA.go X1 (λid _ h=>h)),low (gcB.go X2 (λid _ h=>h)),low gcC,⟨by omega,λid hid=>?_⟩⟩;rw[o20 id (by omega),o19 id (by omega),o18 id (by omega),fb.get id (by omega),o17 id (by omega),F1216.get id (by omega),o12 id (by omega),g711 id (by omega) (by omega),F03.get id hid]
theorem GC.el {W:Nat->Prop}{h:H}{vc:V}{n:Nat}{O:LN}{R:oJ}{G:List Nat->Prop}{L:LN}(g:GC W h vc n O R G)(E:iR G L):cK O R n 0 (cJ n)=L:=(fE g.mI g.isc).1.uniq E
theorem TR {n:Nat}{G:List Nat->Prop}{L:LN}{K:List Nat}(hG:tP n G)(E:iR G L)(hn:n<=7)(k:Ck n G L K)(z:Int):(rc K.length λi=>aB (rH n G L K z (K.getD i 0):Nat))=ints (zi (K.map (JR n L K z))):=by
 have e:=Jx (K.map (JR n L K z));rw[lW] at e;rw[←e];refine bL λi hi=>?_
 rw[IC hG E hn z (k.lt (bD hi))];congr 2;rw[List.getD,List.getD,List.getElem?_map,fX hi];rfl
theorem YQ (h:H)(A B C m:Nat)(x y z u v w:Int):uY h 3 [.aC,aB 0,aB 0] 3 [(0,3,.agg [.sl A 0 m (.kn m),aB x,aB y]),(3,3,.agg [.sl B 0 m (.kn m),aB z,aB u]),(6,3,.agg [.sl C 0 m (.kn m),aB v,aB w])]=some (.sl h.next 0 3 (.kn 3),h.new (.cells false [.sl A 0 m (.kn m),aB x,aB y,.sl B 0 m (.kn m),aB z,aB u,.sl C 0 m (.kn m),aB v,aB w])):=by
 have e:dV [V.aC,aB 0,aB 0] 9= [.aC,aB 0,aB 0,.aC,aB 0,aB 0,.aC,aB 0,aB 0]:=rfl;simp [uY,jY,e,putAt,V.cells,V.one]
theorem dT {i:Decidable True}: @decide True i=true:=decide_eq_true trivial
def Mn (rep:V)(h:H)(l:List Int)(s:SI h rep l)(o z:Nat):Cls.KE:=⟨rep,o,z,.aC,0,⟨(SV.dS s).1,(SV.dS s).2.1,SV.eG s⟩,⟨rfl,rfl,rfl⟩⟩
theorem Ix (h:H):Ev T 11 [] h (λv h'=>v= .bool true/\Fr h h'):=by
 refine bP uN rfl rfl ?_;simp(disch:=omega)only[go_sem,uN,aE];refine (FO h).mono ?_;rintro _ h1 ⟨c1,c2,c3,O1,R1,O2,R2,O3,R3,rfl,gA,gB,gC,f1⟩;have L1:=gA.el Up;have L2:=gB.el JE;obtain⟨u1,w1,rfl,a1,b1,_,_⟩:=gA.sl;obtain⟨u2,w2,rfl,a2,b2,_,_⟩:=gB.sl;obtain⟨u3,w3,rfl,a3,b3,_,_⟩:=gC.sl;obtain⟨B,hB⟩:=exI h1.next;obtain⟨h2,e2,n2,g2,o2,f2⟩:=fR hB [aB 0,.aC,.aC];obtain⟨h3,e3,n3,g3,o3,f3⟩:=fR n2 [aB 0,.aC,.aC];obtain⟨h4,e4,n4,g4,o4,f4⟩:=fR n3 [aB 0,.aC,.aC];obtain⟨h5,e5,n5,g5,o5⟩:=xX h4 B [aB (3:Nat),u1,w1];obtain⟨h6,e6,n6,g6,o6⟩:=xX h5 (B+1) [aB (4:Nat),u2,w2];obtain⟨h7,e7,n7,g7,o7⟩:=xX h6 (B+1+1) [aB (4:Nat),u3,w3];have q4:h4.get B=some (.cells false [aB 0,.aC,.aC]):=by rw[o4 _ (by omega),o3 _ (by omega)];exact g2
 have q5:h5.get (B+1)=some (.cells false [aB 0,.aC,.aC]):=by rw[o5 _ (by omega),o4 _ (by omega)];exact g3
 have q6:h6.get (B+1+1)=some (.cells false [aB 0,.aC,.aC]):=by rw[o6 _ (by omega),o5 _ (by omega)];exact g4
 have F17:Fr h1 h7:=⟨by omega,λid hid=>by rw[o7 id (by omega),o6 id (by omega),o5 id (by omega),o4 id (by omega),o3 id (by omega),o2 id (by omega)]⟩
 have r1:h7.get B=some (.cells false [aB (3:Nat),u1,w1]):=by rw[o7 _ (by omega),o6 _ (by omega)];exact g5
 have r2:h7.get (B+1)=some (.cells false [aB (4:Nat),u2,w2]):=by rw[o7 _ (by omega)];exact g6
 simp(disch:=omega)only[go_sem,hB,e2,n2,e3,n3,e4,gI h4 B 0 (v:= aB (3:Nat)) (u:=u1) (w:=w1) rfl a1 b1,q4,gZ,e5,
  gI h5 (B+1) 0 (v:= aB (4:Nat)) (u:=u2) (w:=w2) rfl a2 b2,q5,e6,
  gI h6 (B+1+1) 0 (v:= aB (4:Nat)) (u:=u3) (w:=w3) rfl a3 b3,q6,e7,aU r1]
 refine (OY _ 3 O1 R1 _ h7 (gA.mono F17) L3 L1).mono ?_;rintro _ h8 ⟨vl,K,ks,rfl,ik,sl8,al8,f8⟩;obtain rfl:=OL.eq gA.mI Up (by omega) VT ik;have x2:h8.get (B+1)=some (.cells false [aB (4:Nat),u2,w2]):=by rw[f8.get _ (by omega)];exact r2
 simp(disch:=omega)only[go_sem,aU x2];refine (Zo _ 3 4 O2 R2 _ h8 (gB.mono (F17.trans f8)) L4 (by omega) L2).mono ?_;rintro _ h9 ⟨K,vp,ik2,rfl,sp9,f9⟩;obtain rfl:=OL.eq gB.mI JE (by omega) aaM ik2;rw[TR gB.mI JE (by omega) ik2,show ([0,2,1,3]:List Nat).map (JR 4 L4 [0,2,1,3] 3)= [0,1,3,2] by decide+kernel] at sp9;have f79:=f8.trans f9;have x1:h9.get B=some (.cells false [aB (3:Nat),u1,w1]):=by rw[f79.get _ (by omega)];exact r1
 simp(disch:=omega)only[go_sem,aU x1];refine (Zz _ 3 O1 R1 _ h9 (gA.mono (F17.trans f79)) L3 L1).mono ?_;rintro _ h10 ⟨K,ik3,rfl,f10⟩;obtain rfl:=OL.eq gA.mI Up (by omega) VT ik3;rw[OT gA.mI Up (by omega) ik3,show XJ 3 L3 [0,1,3]=6 by decide+kernel];obtain⟨Q,hQ⟩:=exI h10.next;obtain⟨h11,e11,n11,s11,f11⟩:=RE hQ [0,1,2];obtain⟨h12,e12,n12,s12,f12⟩:=RE n11 [0,2,1];obtain⟨h13,e13,n13,s13,f13⟩:=RE n12 [1,2,0];obtain⟨h14,e14,n14,g14,o14,f14⟩:=fR n13 [.sl Q 0 3 (.kn 3),aB 1,aB 1,.sl (Q+1) 0 3 (.kn 3),aB 2,aB 3,.sl (Q+1+1) 0 3 (.kn 3),aB 3,aB 2];simp(disch:=omega)only[go_sem,dT,hQ,IS,e11,n11,e12,n12,e13,n13,zO (v:= .sl Q 0 3 (.kn 3)) rfl rfl,zO (v:= .sl (Q+1) 0 3 (.kn 3)) rfl rfl,zO (v:= .sl (Q+1+1) 0 3 (.kn 3)) rfl rfl,YQ,e14]
 have F814:=((((((f9.trans f10).trans f11).trans f12).trans f13).trans f14))
 have F914:=f10.trans (((f11.trans f12).trans f13).trans f14);have z11:SI h14 (.sl Q 0 3 (.kn 3)) [0,1,2]:=s11.mono ((f12.trans f13).trans f14);have z12:SI h14 (.sl (Q+1) 0 3 (.kn 3)) [0,2,1]:=s12.mono (f13.trans f14);have z13:SI h14 (.sl (Q+1+1) 0 3 (.kn 3)) [1,2,0]:=s13.mono f14
 have see:aZ (EV h14) [Mn _ _ _ z11 1 1,Mn _ _ _ z12 2 3,Mn _ _ _ z13 3 2] [([0,1,2],1,1),([0,2,1],2,3),([1,2,0],3,2)]:=⟨⟨z11,rfl,rfl⟩,⟨z12,rfl,rfl⟩,⟨z13,rfl,rfl⟩,trivial⟩
 have sl14:SV h14 (.sl (Q+1+1+1) 0 3 (.kn 3)) 3 (eV [Mn _ _ _ z11 1 1,Mn _ _ _ z12 2 3,Mn _ _ _ z13 3 2]):=SV.all rfl (by omega) g14 _;have see8:=Un gA.mI Up (by omega) (λr hr=>ik.lt hr) (al8.mono λ_ _ x=>x.mono F814);have hks:=aZ.length al8;refine (Kw vl _ ks _ _ _ h14 (sl8.mono F814) sl14 see8 see (by rw[hks];decide) (show 3<1000000 by decide) (by decide) (by decide)).mono ?_;rw[show decide (aaE 3 L3 [0,1,3]= [([0,1,2],1,1),([0,2,1],2,3),([1,2,0],3,2)])=true by decide+kernel];rintro _ h15 ⟨rfl,f15⟩;obtain⟨P,hP⟩:=exI h15.next;obtain⟨h16,e16,n16,s16,f16⟩:=RE hP [0,1,3,2];simp(disch:=omega)only[go_sem,dT,hP,Xh,e16];refine (xH vp _ _ _ h16 (SI.mono (show SI h9 vp (zi [0,1,3,2]) from sp9) (F914.trans (f15.trans f16))) s16 (by decide) (by decide)).mono ?_;rw[show decide (zi [0,1,3,2]= [0,1,3,2])=true by decide+kernel];rintro _ h17 ⟨rfl,f17⟩;have e6:decide (((6:Nat):Int)=6)=true:=rfl;simp(disch:=omega)only[go_sem,dT,e6];exact (((f1.trans F17).trans f8).trans F814).trans ((f15.trans f16).trans f17)
def SB (h:H)(v:V)(l:List Bool):Prop:=SV h v 1 (l.map V.bool)
theorem SB.mono {h h':H}{v:V}{l:List Bool}(s:SB h v l)(f:Fr h h'):SB h' v l:=SV.mono s f
theorem SB.open {h:H}{v:V}{l:List Bool}(s:SB h v l):dC v=some (aB (l.length:Int))/\ ∃id off,Sl v 1 l.length id off/\ ∀i,i<l.length->id<h.next/\h.cell id (off+i)=some (.bool (l.getD i false)):=by
 have hl:(l.map V.bool).length=l.length:=lW ..;refine⟨by unfold dC;rw[SV.len s (n:=l.length) (by omega) (by omega)];rfl,?_⟩;obtain⟨id,off,sh,hid,hc⟩:=SV.shape s l.length (by omega) (by omega);exact⟨id,off,sh,λi hi=>⟨hid (by omega),by rw[hc i (by omega),List.getElem?_map,List.getD,fX hi];rfl⟩⟩
theorem Tt (va vb:V)(a b:List Bool)(h:H)(ha:SB h va a)(hb:SB h vb b)(hla:a.length<1000000)(hlb:b.length<1000000):Ev T 19 [va,vb] h (λv h'=>v= .bool (decide (a=b))/\Fr h h'):=by
 refine bP rQ rfl rfl ?_;obtain⟨la,id,off,hsl,hc⟩:=ha.open;obtain⟨lb,id2,off2,hsl2,hc2⟩:=hb.open;simp(disch:=omega)only[go_sem,rQ,aE,la,lb];refine aY (λhne=>?_) (λheq=>?_)
 ·simp(disch:=omega)only[go_sem]
  have:a≠b:=λe=>hne (by rw[e])
  exact⟨by rw[decide_eq_false this],Fr.refl h⟩
 have heq:a.length=b.length:=by omega
 simp(disch:=omega)only[go_sem,la];refine aG (λk vars h2=> ∃(i:Nat),(∃g:Nat->V,vars= [va,vb,g 2,aB i,g 4,g 5,g 6])/\i<=a.length/\(∀j,j<i->a.getD j false=b.getD j false)/\Fr h h2/\k=a.length-i) a.length
  ⟨0,aA rfl,iP _,λj hj=>by omega,Fr.refl h,rfl⟩ ?_
 rintro k vars h2 ⟨i,⟨g,rfl⟩,hi,hpre,hf2,rfl⟩
 by_cases hlt:(i:Int)<(a.length:Int)
 case neg=>
  have e1:=fF hlt;simp(disch:=omega)only[go_sem,la,e1]
  have:a=b:=by
   refine List.ext_getElem heq λj h1 h2=>?_
   have:=hpre j (by omega);rwa [List.getD,fX h1,List.getD,fX h2] at this
  exact⟨by rw[decide_eq_true this],hf2⟩
 have e1:=iK hlt;have hia:i<a.length:=by omega
 obtain⟨i1,c1⟩:=hc i hia;obtain⟨i2,c2⟩:=hc2 i (by omega);have c1':=(hf2.cell (off:=off+i) i1).trans c1;have c2':=(hf2.cell (off:=off2+i) i2).trans c2;generalize hA:a.getD i false=x at c1' c1;generalize hB:b.getD i false=y at c2' c2
 by_cases hxy:x=y
 ·subst hxy
  have eb:(x==x)=true:=by cases x<;>rfl
  simp(disch:=omega)only[go_sem,la,e1,hsl.ixa,hsl2.ixa,c1',c2',eb];rw[fJ i];refine⟨a.length-(i+1),by omega,i+1,aA rfl,by omega,λj hj=>?_,hf2.bF (by omega),rfl⟩
  by_cases h3:j=i
  ·rw[h3,hA,hB]
  ·exact hpre j (by omega)
 ·have eb:(x==y)=false:=by cases x<;>cases y<;>first|rfl|exact absurd rfl hxy
  simp(disch:=omega)only[go_sem,la,e1,hsl.ixa,hsl2.ixa,c1',c2',eb];have:a≠b:=λe=>hxy (by rw[←hA,←hB,e])
  exact⟨by rw[decide_eq_false this],hf2.bF (by omega)⟩
set_option maxRecDepth 100000
theorem GC.all {W:Nat->Prop}{h:H}{vc:V}{n:Nat}{O:LN}{R:oJ}{G:List Nat->Prop}(g:GC W h vc n O R G):iR G (cK O R n 0 (cJ n))/\(cK O R n 0 (cJ n)).length<=5040:=by
 have e:=fE g.mI g.isc;exact⟨e.1,by rw[e.2];exact kE g⟩
theorem HO {h:H}{v:V}{n:Nat}{f:Nat->Nat}(s:SV h v 1 (rc n λk=> aB (f k:Nat))):dC v=some (aB n)/\eG v v=true/\ ∃id off,Sl v 1 n id off/\ ∀k,k<n->id<h.next/\h.cell id (off+k)=some (aB (f k:Nat)):=by
 have hl:(rc n λk=>aB (f k:Nat)).length=n:=eU n _;refine⟨by unfold dC;rw[SV.len s (n:=n) (by omega) (by omega)];rfl,SV.eG s,?_⟩;obtain⟨id,off,sh,hid,hc⟩:=SV.shape s n (by omega) (by omega);exact⟨id,off,sh,λk hk=>⟨hid (by omega),by rw[hc k (by omega),Fj hk]⟩⟩
section
variable {n:Nat} {G H:List Nat->Prop} {L M:LN} {K K':List Nat} {x:List Nat}
variable (hG:tP n G) (E:iR G L) (k:Ck n G L K) (hH:tP n H) (F:iR H M) (k':Ck n H M K') (X:bY n x) (hx: ∀y,H y↔ ∃g,G g/\oI g x=y)
include hG E k hH F k' X hx
end
def tQ (v:V)(id:Nat):Prop:= ∃off m c,v= .sl id off m c
theorem gG.sp' {W:Nat->Prop}{h:H}{v:V}{ws:List V}{l:LN}(sv:SV h v 1 ws)(p:gG W h ws l):SP h v l:=by
 refine⟨ws,sv,?_⟩;have hl:=aZ.length p
 exact aZ.nM (by simpa using hl) λi hi hj=>by
  have:=(aZ.get p i hi (by omega)).si;simpa using this
section
variable {h:H} {v:V} {ws:List V} {b k n:Nat} {A S Q:LN} {y x:List Nat}
def FX (h:H)(v:V)(ws:List V)(b:Nat):Prop:= ∃id cap rest,v= .sl id 0 ws.length cap/\b<=id/\id<h.next/\h.get id=bX (ws++rest)/\(cap= .un 1∨cap= .kn 1/\ws.length+rest.length=1)
theorem FX.sv (t:FX h v ws b):SV h v 1 ws:=by
 obtain⟨id,cap,rest,rfl,h1,h2,h3,_⟩:=t;exact .inr ⟨id,0,_,cap,false,_,rfl,(Nat.mul_one _).symm,h2,h3,by rw[pW];omega,by rw[List.drop_zero,Nat.mul_one,List.take_left' rfl]⟩
theorem FX.sC {h':H}(t:FX h v ws b)(hn:h.next<=h'.next)(hg: ∀id,tQ v id->h'.get id=h.get id):FX h' v ws b:=by
 obtain⟨id,cap,rest,e,h1,h2,h3,h4⟩:=t;exact⟨id,cap,rest,e,h1,by omega,by rw[hg id ⟨_,_,_,e⟩];exact h3,h4⟩
theorem FX.in (t:FX h v ws b){id:Nat}(hb:tQ v id):b<=id/\id<h.next:=by
 obtain⟨i,cap,rest,rfl,h1,h2,_⟩:=t;obtain⟨_,_,_,e⟩:=hb;cases e;exact⟨h1,h2⟩
theorem FX.push {y:V}{S:Nat}{c:rL}(t:FX h v ws b)(hS:SV h (.sl S 0 1 c) 1 [y])(hb:b<=h.next)(hw:ws.length<1000000):
  ∃v' h',xT h 1 24 v (.sl S 0 1 c)=some (v',h')/\FX h' v' (ws++ [y]) b/\(∀k,k<h.next-> ¬tQ v k->h'.get k=h.get k)/\h.next<=h'.next/\h'.next<=h.next+1/\ ∀k,tQ v' k->tQ v k∨k=h.next:=by
 have e1:xT h 1 24 v (.sl S 0 1 c)=Ay.wH h 1 24 v 1 [y]:=by
  simp only[xT,hS.len (n:=1) rfl (by omega),hS.slice]
 rw[e1]
 have hx:=t.sv
 have hlen:=hx.len (n:=ws.length) (by omega) (by omega)
 have hsl:=hx.slice
 obtain⟨id,cap,rest,rfl,h1,h2,h3,h4⟩:=t
 unfold Ay.wH
 simp only[hlen,hsl]
 rw[if_neg (by omega),if_pos ⟨by omega,by omega⟩]
 have key: ∀g:H,g.next=h.next->(∀k,k<h.next->k≠id->g.get k=h.get k)-> ∃v' h',some (V.sl h.next 0 (ws.length+1) (.un 1),g.new (.cells false (ws++ [y])))=some (v',h')/\FX h' v' (ws++ [y]) b/\(∀k,k<h.next-> ¬tQ (.sl id 0 ws.length cap) k->h'.get k=h.get k)/\h.next<=h'.next/\h'.next<=h.next+1/\ ∀k,tQ v' k->tQ (.sl id 0 ws.length cap) k∨k=h.next:=by
  intro g gn gg;refine⟨_,_,rfl,⟨h.next,_, [],by rw[pW];rfl,hb,by rw[H.aV];omega,by rw[←gn,H.aN,List.append_nil],.inl rfl⟩,λk hk ha=>?_,by rw[H.aV];omega,by rw[H.aV];omega,λk ⟨_,_,_,e⟩=>by cases e;exact .inr rfl⟩;rw[H.bU g (by omega)];exact gg k hk (λe=>ha ⟨_,_,_,by rw[e]⟩)
 rcases h4 with rfl|⟨rfl,h5⟩
 ·simp only[h3,if_true]
  exact key (h.set id none) rfl (λk _ hk=>H.aI h hk none)
 ·simp only
  by_cases e:ws.length+1<=1
  ·rw[if_pos e]
   have e0:ws= []:=List.eq_nil_of_length_eq_zero (by omega)
   subst e0
   obtain⟨z,rfl⟩: ∃z,rest= [z]:=List.length_eq_one_iff.1 (by simpa using h5)
   have hp:h.put id (0+([]:List V).length*1) [y]=some (h.set id (bX [y])):=by
    simp [H.put,h3,putAt]
   rw[hp]
   refine⟨_,_,rfl,⟨id,_, [],rfl,h1,h2,by rw[H.aT];rfl,.inr ⟨rfl,rfl⟩⟩,λk hk ha=>H.aI h (λe=>ha ⟨0,0,.kn 1,by rw[e];rfl⟩) _,gV _,Nat.le_succ _,λk ⟨_,_,_,e⟩=>by cases e;exact .inl ⟨_,_,_,rfl⟩⟩
  ·rw[if_neg e]
   exact key h rfl (λ_ _ _=>rfl)
def Xy (A:LN)(k:Nat)(y:List Nat):LN:=A.take k++y::A.drop k
theorem pG {z:List Nat}:z∈Xy A k y↔z=y∨z∈A:=by
 unfold Xy;rw[Bw,List.mem_cons];constructor
 ·rintro (h|h|h)
  ·exact .inr (List.mem_of_mem_take h)
  ·exact .inl h
  ·exact .inr (List.mem_of_mem_drop h)
 ·rintro (h|h)
  ·exact .inr (.inl h)
  ·rw[←List.take_append_drop k A,Bw] at h
   rcases h with h|h
   ·exact .inl h
   ·exact .inr (.inr h)
theorem KG {a b:List Nat}(A:bY n a)(B:bY n b)(h1: ¬Lt a b)(h2:a≠b):Lt b a:=by
 have h: ∃i,i<n/\a.getD i 0≠b.getD i 0:=La λh=>h2 (uG (by rw[A.len,B.len]) λi hi=>La λh3=>h ⟨i,by rw[←A.len];exact hi,h3⟩)
 obtain⟨i,hi,hne⟩:=h
 have hw: ∃i,(i<n/\a.getD i 0≠b.getD i 0)/\ ∀j,j<i-> ¬(j<n/\a.getD j 0≠b.getD j 0):=by
  revert hi hne
  induction i using Nat.strongRecOn with
  |ind i ih=>
   intro hi hne
   by_cases h: ∃j,j<i/\j<n/\a.getD j 0≠b.getD j 0
   ·obtain⟨j,h3,h4,h5⟩:=h
    exact ih j h3 h4 h5
   ·exact⟨i,⟨hi,hne⟩,λj hj hjn=>h ⟨j,hj,hjn⟩⟩
 obtain⟨k,⟨hk,hk2⟩,hmin⟩:=hw;have he: ∀j,j<k->a.getD j 0=b.getD j 0:=λj hj=>La λh3=>hmin j hj ⟨by omega,h3⟩
 rcases Nat.lt_or_gt_of_ne hk2 with h4|h4
 ·exact (h1 ⟨k,by rw[A.len];exact hk,he,h4⟩).elim
 ·exact⟨k,by rw[B.len];exact hk,λj hj=>(he j hj).symm,h4⟩
theorem LL (hP: ∀x∈A,bY n x)(Y:bY n y)(asc:A.Pairwise Lt)(p:Plc A y k)(hy:y∉A):(Xy A k y).Pairwise Lt:=by
 unfold Xy;rw[List.pairwise_append];have QF: ∀{z:List Nat},z∈A.take k-> ∃i,i<k/\i<A.length/\A.getD i []=z:=λh=>(Jz (d:= [])).1 h
 have bt: ∀{z:List Nat},z∈A.drop k-> ∃i,k<=i/\i<A.length/\A.getD i []=z:=λh=>by
  obtain⟨q,hq,e⟩:=Gk.1 h;rw[List.length_drop] at hq;rw[List.getElem_drop] at e;exact⟨k+q,by omega,by omega,by rw[List.getD,fX (by omega),←e];rfl⟩
 have lo: ∀z∈A.take k,Lt z y:=λz hz=>by
  obtain⟨i,h1,h2,rfl⟩:=QF hz;exact (mW (by rw[(hP _ (bD h2)).len,Y.len])).1 (p.lo i h1)
 have hi: ∀z∈A.drop k,Lt y z:=λz hz=>by
  obtain⟨i,h1,h2,rfl⟩:=bt hz;have Z:=hP _ (bD (d:= []) h2);refine KG Z Y (λh=>?_) (λe=>hy (by rw[←e];exact bD h2));have:=p.hi i h1 h2;rw[(mW (by rw[Z.len,Y.len])).2 h] at this;cases this
 refine⟨asc.sublist (List.take_sublist k A),List.pairwise_cons.2 ⟨hi,asc.sublist (List.drop_sublist k A)⟩,λz hz w hw=>?_⟩;rcases List.mem_cons.1 hw with rfl|hw
 ·exact lo z hz
 ·have Z:=hP z (List.mem_of_mem_take hz)
  exact Lt.trans (by rw[Z.len,Y.len]) (lo z hz) (hi w hw)
structure ZN (n:Nat)(S A Q:LN):Prop where
 asc:A.Pairwise Lt
 gen: ∀x∈A,gO n (· ∈S) x
 one:cJ n∈A
 sub: ∀x∈Q,x∈A
 cl: ∀x∈A,x∉Q-> ∀g∈S,bE x g∈A
theorem ZN.start (n:Nat)(S:LN):ZN n S [cJ n] [cJ n]:=
 ⟨List.pairwise_singleton _ _,λx hx=>by simp at hx;subst hx;exact .one,by simp,λx hx=>hx,λx hx h=>absurd hx h⟩
theorem ZN.done (j:ZN n S A []):iR (gO n (· ∈S)) A:=by
 refine⟨j.asc,λx=>⟨j.gen x,λh=>?_⟩⟩
 induction h with
 |one=>exact j.one
 |mul _ hg ih=>exact j.cl _ ih List.not_mem_nil _ hg
structure PT (n:Nat)(S:LN)(x:List Nat)(i:Nat)(A Q:LN):Prop where
 asc:A.Pairwise Lt
 gen: ∀x∈A,gO n (· ∈S) x
 one:cJ n∈A
 sub: ∀x∈Q,x∈A
 mem:x∈A
 cl: ∀z∈A,z∉Q->z=x∨ ∀g∈S,bE z g∈A
 dn: ∀j,j<i->bE x (S.getD j [])∈A
theorem PT.start (j:ZN n S A (Q++ [x])):PT n S x 0 A Q:=
 ⟨j.asc,j.gen,j.one,λz hz=>j.sub z (by simp [hz]),j.sub x (by simp),λz hz hq=>by
  by_cases e:z=x
  ·exact .inl e
  ·exact .inr (j.cl z hz (by simp [hq,e])),λj hj=>by omega⟩
theorem PT.done (j:PT n S x S.length A Q):ZN n S A Q:=
 ⟨j.asc,j.gen,j.one,j.sub,λz hz hq g hg=>by
  rcases j.cl z hz hq with rfl|h
  ·obtain⟨i,hi,e⟩:=Gk.1 hg
   have:=j.dn i hi;rwa [List.getD,fX hi,Option.getD_some,e] at this
  ·exact h g hg⟩
theorem PT.skip {i:Nat}(j:PT n S x i A Q)(h:bE x (S.getD i [])∈A):PT n S x (i+1) A Q:=
 ⟨j.asc,j.gen,j.one,j.sub,j.mem,j.cl,λk hk=>by
  by_cases e:k=i
  ·rw[e];exact h
  ·exact j.dn k (by omega)⟩
theorem PT.step {i:Nat}(j:PT n S x i A Q)(hS: ∀g∈S,bY n g)(hi:i<S.length)(h:bE x (S.getD i [])∉A)(p:Plc A (bE x (S.getD i [])) k):PT n S x (i+1) (Xy A k (bE x (S.getD i []))) (Q++ [bE x (S.getD i [])]):=by
 have gx:=j.gen x j.mem;have gy:gO n (· ∈S) (bE x (S.getD i [])):=gx.mul (bD hi);obtain⟨y,hy⟩:=exI (bE x (S.getD i []));rw[hy] at gy h p ⊢;refine⟨LL (λz hz=>(j.gen z hz).fA hS) (gy.fA hS) j.asc p h,λz hz=>?_,pG.2 (.inr j.one),λz hz=>?_,pG.2 (.inr j.mem),λz hz hq=>?_,λq hq=>?_⟩
 ·rcases pG.1 hz with rfl|hz
  ·exact gy
  ·exact j.gen z hz
 ·rcases Bw.1 hz with hz|hz
  ·exact pG.2 (.inr (j.sub z hz))
  ·simp at hz;exact pG.2 (.inl hz)
 ·rcases pG.1 hz with rfl|hz
  ·exact absurd (by simp) hq
  ·rcases j.cl z hz (λh=>hq (by simp [h])) with e|h2
   ·exact .inl e
   ·exact .inr λg hg=>pG.2 (.inr (h2 g hg))
 ·by_cases e:q=i
  ·rw[e,hy];exact pG.2 (.inl rfl)
  ·exact pG.2 (.inr (j.dn q (by omega)))
theorem gG.Xy {W:Nat->Prop}{wa:List V}(p:gG W h wa A)(q:PV W h v y)(hk:k<=A.length):gG W h (wa.take k++v::wa.drop k) (Go.Proofs.YtddpkbicnolafaaGreat.Xy A k y):=by
 have hl:=aZ.length p
 have t: ∀(k:Nat) (wa:List V) (A:LN),gG W h wa A->gG W h (wa.take k) (A.take k)/\gG W h (wa.drop k) (A.drop k):=by
  intro k
  induction k with
  |zero=>intro wa A p;exact⟨trivial,p⟩
  |succ k ih=>
   intro wa A p
   cases wa with
   |nil=>cases A with
    |nil=>exact⟨trivial,trivial⟩
    |cons=>exact p.elim
   |cons a wa=>cases A with
    |nil=>exact p.elim
    |cons b A=>
     obtain⟨h1,h2⟩:=ih wa A p.2
     exact⟨⟨p.1,h1⟩,h2⟩
 obtain⟨h1,h2⟩:=t k wa A p;exact h1.append ⟨q,h2⟩
theorem FX.own (t:FX h v ws b)(h0:0<ws.length):dG h v 1 ws b:=by
 obtain⟨id,cap,rest,rfl,h1,h2,h3,h4⟩:=t;refine .inr ⟨id,ws.length,cap,rest,rfl,(Nat.mul_one _).symm,?_,h1,h2,h3⟩;rcases h4 with h4|⟨rfl,h5⟩
 ·exact .inl h4
 ·have e:ws.length=1:=by omega
  exact .inr ⟨by rw[e],List.eq_nil_of_length_eq_zero (by omega)⟩
end
section
variable {n:Nat} {G:List Nat->Prop} {L:LN} {K:List Nat}
variable (hG:tP n G) (E:iR G L) (k:Ck n G L K)
include hG E k
end
def Lj (s:Nat->Bool)(n:Nat):Nat:=((List.range n).filter s).length
theorem DN (s:Nat->Bool)(n:Nat):Lj s (n+1)=Lj s n+if s n=true then 1 else 0:=by
 unfold Lj;rw[List.range_succ,List.filter_append,pW];cases h:s n<;>simp [List.filter,h]
theorem UQ (s:Nat->Bool)(n:Nat):Lj s n<=n:=by
 unfold Lj;have:=List.length_filter_le s (List.range n);rwa [List.length_range] at this
section
variable {n:Nat} {G:List Nat->Prop} {L:LN}
variable (hG:tP n G) (E:iR G L)
include hG E
end
theorem Zf {h:H}{v:V}{L:LN}(s:SP h v L):dC v=some (aB (L.length:Int))/\eG v v=true/\ ∃(id off:Nat) (ws:List V),Sl v 1 L.length id off/\ ∀i,i<L.length->id<h.next/\h.cell id (off+i)=some (ws.getD i V.undef)/\SI h (ws.getD i V.undef) (zi (L.getD i [])):=by
 have lv:=s.lens;rw[lW] at lv;obtain⟨id,off,ws,sh,hid,hwl,hc,hall⟩:=s.open;rw[lW] at sh hid hwl hc;obtain⟨ws',sv',_⟩:=s;exact⟨lv,SV.eG sv',id,off,ws,sh,λi hi=>⟨hid (by omega),hc i hi,Hx hall hi⟩⟩
open Classical in
noncomputable def Lg (a:List Nat)(n i:Nat):List Nat:=(List.range i).filter λj=>decide (jH a n j)
theorem ES (a:List Nat)(n i:Nat):(jH a n i->Lg a n (i+1)=Lg a n i++ [i])/\(¬jH a n i->Lg a n (i+1)=Lg a n i):=by
 classical
 unfold Lg;rw[List.range_succ,List.filter_append];constructor
 ·intro h;simp [List.filter,h]
 ·intro h;simp [List.filter,h]
theorem Ih (a:List Nat)(n i:Nat):(Lg a n i).length<=i:=by
 unfold Lg;have:=List.length_filter_le (λj=> @decide (jH a n j) (Classical.propDecidable _)) (List.range i);rwa [List.length_range] at this
def WD (a:List Nat)(i s:Nat):List Nat:=(List.range s).map λt=>it a t i
theorem JL (a:List Nat)(i s:Nat):WD a i (s+1)=WD a i s++ [it a s i]:=by
 unfold WD;rw[List.range_succ,List.map_append];rfl
theorem AW (u:V)(n:Nat)(a:List Nat)(h:H)(hn:n<=64)(A:bY n a)(hu:SI h u (zi a)):
  Ev T 112 [u] h (λv h'=> ∃ws,dG h' v 1 ws h.next/\gG (λq=>q<h.next) h' ws (nI a n)/\Fr h h'):=by
 refine bP zB rfl rfl ?_
 have lu:=hu.lens
 rw[aQ,A.len] at lu
 obtain⟨id,off,sh,hid,hc⟩:=hu.open
 rw[aQ,A.len] at sh hid hc
 simp(disch:=omega)only[go_sem,zB,aE,lu,zX h n (by omega)]
 obtain⟨S,hS⟩:=exI h.next
 obtain⟨h1,e1,n1,g1,o1,f1⟩:=fR hS (rc n λ_=>V.bool false)
 rw[hS,e1]
 refine aG (λk' vars hh=> ∃(i:Nat) (vo:V) (wo:List V),(∃g:Nat->V,vars= [u,g 1,vo,.sl S 0 n (.kn n),aB i,g 5,g 6,g 7,g 8,g 9])/\i<=n/\dG hh vo 1 wo (S+1)/\gG (λq=>q<=S∨tQ vo q) hh wo ((Lg a n i).map (Hf a))/\
   hh.get S=some (.cells false (rc n λj=> .bool (Ag a i 0 j)))/\S<hh.next/\Fr h hh/\k'=n-i) n
  ⟨0,.aC, [],aA rfl,iP _,dG.aC _ _ _,trivial,by rw[g1,show (rc n λj=>V.bool (Ag a 0 0 j))=rc n λ_=>V.bool false from bL λj _=>by rw[Sq]],by omega,f1,rfl⟩ ?_
 clear g1 e1 o1 f1 n1 h1
 rintro k' vars h2 ⟨i,vo,wo,⟨g,rfl⟩,hi,ow,pvs,gS,hSn,F,rfl⟩
 by_cases hlt:(i:Int)<(n:Int)
 case neg=>
  have d1:=fF hlt;obtain rfl:i=n:=by omega
  simp(disch:=omega)only[go_sem,lu,d1];exact⟨wo,ow.le (by omega),gG.sG pvs λq _ hq=> .inl (by omega),F⟩
 have d1:=iK hlt
 have hin:i<n:=by omega
 have hvin:=λj off m c (e:vo=V.sl j off m c)=>ow.in j off m c e
 have lw:=aZ.length pvs
 rw[lW] at lw
 have lf:=Ih a n i
 obtain⟨p0,p1,_⟩:=kV A hin
 have ple:=Iv A hin
 simp(disch:=omega)only[go_sem,lu,d1]
 refine bT (λvs hh=> ∃(vc:V) (l:List Nat),(∃g:Nat->V,vs= [u,g 1,vo,.sl S 0 n (.kn n),aB i,vc,g 6,g 7,g 8,g 9])/\(jH a n i->l=Hf a i)/\(¬jH a n i->l= [])/\dG hh vc 1 (ints (zi l)) h2.next/\
   hh.get S=some (.cells false (rc n λj=> .bool (Ag a (i+1) 0 j)))/\h2.next<=hh.next/\ ∀q,q<h2.next->q≠S->hh.get q=h2.get q) ?_ ?_
 ·refine aG (λk' vars hh=> ∃(s:Nat) (vc:V),(∃g:Nat->V,vars= [u,g 1,vo,.sl S 0 n (.kn n),aB i,vc,aB (it a s i:Nat),g 7,g 8,g 9])/\s<=lX a i/\(¬jH a n i->s=0)/\dG hh vc 1 (ints (zi (WD a i s))) h2.next/\
    hh.get S=some (.cells false (rc n λj=> .bool (Ag a i s j)))/\h2.next<=hh.next/\(∀q,q<h2.next->q≠S->hh.get q=h2.get q)/\k'=lX a i-s) (lX a i)
   ⟨0,.aC,aA rfl,iP _,λ_=>rfl,dG.aC _ _ _,gS,gV _,λ_ _ _=>rfl,rfl⟩ ?_
  clear g
  rintro k' vars h3 ⟨s,vc,⟨g,rfl⟩,hs,hs0,oc,gS3,n3,o3,rfl⟩
  have kl:=xS A hin s
  have cS:h3.cell S (it a s i)=some (.bool (Ag a i s (it a s i))):=iW gS3 kl
  have e3:decide (((it a s i:Nat):Int)<0)=false:=fF (by omega)
  have e4:decide ((n:Int)<=((it a s i:Nat):Int))=false:=fF (by omega)
  by_cases hnew:Ag a i s (it a s i)=true
  ·rw[hnew] at cS
   simp(disch:=omega)only[go_sem,e3,e4,cS]
   by_cases hf:jH a n i
   ·have hsp:s=lX a i:=by
     have:=Hl A hin hf hs;rw[hnew] at this;have h5: ¬s<lX a i:=λh=>by have:=this.2 h;cases this
     omega
    subst hsp;refine⟨vc,WD a i (lX a i),aA rfl,λ_=>rfl,λh=>absurd hf h,oc,?_,n3,o3⟩;rw[gS3];congr 2;exact bL λj _=>by rw[Ty A hin]
   ·obtain rfl:=hs0 hf
    refine⟨vc, [],aA rfl,λh=>absurd h hf,λ_=>rfl,oc,?_,n3,o3⟩
    rw[gS3]
    congr 2
    exact bL λj _=>by rw[Rs A hin hf]
  ·have hnew':Ag a i s (it a s i)=false:=by simpa using hnew
   rw[hnew'] at cS
   have hf:jH a n i:=La λhf=>by
    obtain rfl:=hs0 hf;have h2: ∃j0,j0<i/\ ∃t,it a t j0=i:=La λhn=>hf ((zY A hin).2 λj0 hj t e=>hn ⟨j0,hj,t,e⟩)
    exact hnew (nZ.2 (.inl h2))
   have hsp:=(Hl A hin hf hs).1 hnew'
   have pt:=bW (vs:=rc n λj=> .bool (Ag a i s j)) (off:=it a s i) (by rw[eU];exact kl) h3 S (.bool true)
   rw[iY] at pt
   obtain⟨h4,e5,n4,g4,o4⟩:=xX h3 S (rc n λj=>if j=it a s i then V.bool true else .bool (Ag a i s j))
   rw[e5] at pt
   have hr:(rc n λj=>if j=it a s i then V.bool true else .bool (Ag a i s j))=rc n λj=> .bool (Ag a i (s+1) j):=bL λj _=>by
    rw[Sr];split<;>rfl
   rw[hr] at g4
   have oc4:=oc.sC (h':=h4) (by omega) λq off m c e hq=>o4 q (by have:=(oc.in _ _ _ _ e).2.1;omega)
   have ll:(WD a i s).length=s:=by unfold WD;simp
   obtain⟨h5,e6,n5,g5,o5,f5⟩:=fR (h:=h4) rfl [aB (it a s i:Nat)]
   obtain⟨h6,a6,p6⟩:=(oc4.fr f5).push (bytes:=8) (SV.one (by omega) g5 (.kn 1)) (n:=s) (m:=1) (by rw[aM,aQ];omega) rfl (by omega) (by omega) (by omega)
   have n6:=p6.next
   have ci:h6.cell id (off+it a s i)=some (aB (a.getD (it a s i) 0:Nat)):=by
    have hq:=hid (by omega);have hF:=F.next
    have h26:h6.get id=h2.get id:=by
     rw[p6.old id (by omega) (λq o m c e e2=>by have:=(oc.in _ _ _ _ e).2.1;omega),o5 id (by omega),o4 id (by omega),o3 id (by omega) (by omega)]
    unfold H.cell;rw[h26];show h2.cell id (off+it a s i)=_;rw[F.cell hq,hc _ kl];congr 2;simp [zi,A.len,kl]
   have bls:=Hy h4 ((it a s i:Nat):Int)
   rw[show ints [((it a s i:Nat):Int)]= [aB (it a s i:Nat)] from rfl,e6] at bls
   rw[n5] at a6
   simp(disch:=omega)only[go_sem,e3,e4,cS,gS3,pt,bls,a6,sh.ixa,ci]
   refine⟨lX a i-(s+1),by omega,s+1,.sl (h4.next+1) 0 (s+1) (.un 1),?_,by omega,λh=>absurd hf h,?_,?_,by omega,λq h1 h2=>?_,rfl⟩
   ·rw[show it a (s+1) i=a.getD (it a s i) 0 by rw[rO a s i 1];rfl]
    exact aA rfl
   ·have t:=p6.own (by rw[aM,aQ];omega) rfl (b:=h2.next) (by omega)
    rw[JL,Hg,rG]
    rw[n5] at t
    exact t
   ·rw[p6.old S (by omega) (λq o m c e e2=>by have:=(oc.in _ _ _ _ e).2.1;omega),o5 S (by omega)];exact g4
   ·rw[p6.old q (by omega) (λq' o m c e e2=>by have:=(oc.in _ _ _ _ e).2.1;omega),o5 q (by omega),o4 q h2,o3 q h1 h2]
 clear g
 rintro vars h3 ⟨vc,l,⟨g,rfl⟩,hf1,hf0,oc,gS3,n3,o3⟩
 have F3:Fr h h3:=⟨by have:=F.next;omega,λq hq=>by rw[o3 q (by have:=F.next;omega) (by omega)];exact F.get q hq⟩
 have ow3:dG h3 vo 1 wo (S+1):=ow.sC n3 λq o m c e hq=>o3 q hq (by have:=(hvin _ _ _ _ e).2.1;omega)
 have x3:Fx (λq=>q<=S∨tQ vo q) h2 h3:=⟨n3,λq h1 h2=>o3 q h1 (λe=>h2 (.inl (by omega)))⟩
 have pvs3:=gG.fx pvs x3
 have lc:dC vc=some (aB (l.length:Int)):=by
  have:=SI.lens (show SI h3 vc (zi l) from oc.sv);rwa [aQ] at this
 obtain⟨fs1,fs0⟩:=ES a n i
 by_cases hf:jH a n i
 ·have el:=hf1 hf
  have ll:l.length=lX a i:=by rw[el,lT]
  have d2:decide ((0:Int)<(l.length:Int))=true:=iK (by omega)
  have pc:PV (λq=>q<=S∨tQ vo q) h3 vc l:=by
   refine⟨oc.sv,?_⟩
   cases vc with
   |sl q o m c=>
    have h5:=(oc.in _ _ _ _ rfl).2.1;rintro (h6|⟨o',m',c',e⟩)
    ·omega
    ·have:=(hvin _ _ _ _ e).1;omega
   |_=>trivial
  obtain⟨h4,e4,n4,g4,o4,f4⟩:=fR (h:=h3) rfl [vc]
  obtain⟨h5,a5,p5⟩:=(ow3.fr f4).push (bytes:=24) (SV.one (by omega) g4 (.kn 1)) (n:=(Lg a n i).length) (m:=1) (by omega) rfl (by omega) (by omega) (by omega)
  have n5:=p5.next
  rw[n4] at a5
  simp(disch:=omega)only[go_sem,lc,d2,dB _ (z:= .aC) pc.eA.1 pc.eA.2,e4,a5]
  rw[fJ i]
  have x5:Fx (λq=>q<=S∨tQ vo q) h3 h5:=⟨by omega,λq h1 h2=>by rw[p5.old q (by omega) (λq' o m c e e2=>h2 (.inr ⟨o,m,c,e2▸e⟩)),o4 q (by omega)]⟩
  have w5: ∀q,q<h3.next->(q<=S∨tQ (.sl (h3.next+1) 0 ((Lg a n i).length+1) (.un 1)) q)->(q<=S∨tQ vo q):=λq h1 h2=>by
   rcases h2 with h2|⟨_,_,_,e⟩
   ·exact .inl h2
   ·cases e;omega
  have t:=p5.own (by omega) rfl (b:=S+1) (by omega)
  rw[n4] at t
  refine⟨n-(i+1),by omega,i+1,_,_,aA rfl,by omega,t,?_,?_,by omega,⟨by have:=F3.next;omega,λq hq=>?_⟩,rfl⟩
  ·rw[fs1 hf,List.map_append,show [i].map (Hf a)= [l] by rw[el];rfl]
   exact (gG.go pvs3 x5 w5).append (gG.one (PV.go pc x5 w5))
  ·rw[p5.old S (by omega) (λq' o m c e e2=>by have:=(hvin _ _ _ _ e).2.1;omega),o4 S (by omega)];exact gS3
  ·rw[p5.old q (by omega) (λq' o m c e e2=>by have:=(hvin _ _ _ _ e).2.1;omega),o4 q (by have:=F3.next;omega)];exact F3.get q hq
 ·have el:=hf0 hf
  have d2:decide ((0:Int)<(l.length:Int))=false:=by rw[el];rfl
  simp(disch:=omega)only[go_sem,lc,d2]
  rw[fJ i]
  exact⟨n-(i+1),by omega,i+1,vo,wo,aA rfl,by omega,ow3,by rw[fs0 hf];exact pvs3,gS3,by omega,F3,rfl⟩
theorem Tp {l:List Nat}{k:Nat}(hk:k<l.length):jS (l.take (k+1))=jS (l.take k)/Nat.gcd (jS (l.take k)) (l.getD k 0)*l.getD k 0:=by
 unfold jS;rw[dL 0 hk,List.foldl_append];rfl
theorem PY {l:List Nat}{m k:Nat}(h:jS l∣m):jS (l.take k)∣m:=by
 rw[qU] at h ⊢;exact λc hc=>h c (List.mem_of_mem_take hc)
theorem BV (u:V)(n:Nat)(a:List Nat)(h:H)(n0:1<=n)(hn:n<=7)(A:bY n a)(hu:SI h u (zi a)):
  Ev T 82 [u] h (λv h'=>v= .tup [aB (fM a n:Nat),aB 0]/\Fr h h'):=by
 refine bP uT rfl rfl ?_
 simp(disch:=omega)only[go_sem,uT,aE]
 refine (sA u _ h (by rw[aQ,A.len];omega) hu).mono ?_
 rw[Qd A n0 (by omega)]
 rintro _ h1 ⟨rfl,f1⟩
 simp(disch:=omega)only[go_sem]
 refine aY (λhc=>(hc rfl).elim) (λ_=>?_)
 simp(disch:=omega)only[go_sem]
 refine (AW u n a h1 (by omega) A (hu.mono f1)).mono ?_
 rintro vl h2 ⟨wl,ol,pl,f2⟩
 have sl:=gG.sp' ol.sv pl
 obtain⟨C,hC⟩:=exI (nI a n)
 rw[hC] at sl
 obtain⟨lv,ev,id,off,ws,sh,hc⟩:=Zf sl
 have h420: ∀k,jS ((C.map List.length).take k)∣420:=λk=>PY (by rw[←hC];exact Cj A hn)
 have h0: ∀k,0<jS ((C.map List.length).take k):=λk=>Nat.pos_of_dvd_of_pos (h420 k) (by omega)
 have hle: ∀k,jS ((C.map List.length).take k)<=420:=λk=>Nat.le_of_dvd (by omega) (h420 k)
 have hcl: ∀k,k<C.length->(C.getD k []).length<=420:=λk hk=>by
  have hd:=h420 (k+1);rw[qU] at hd;refine Nat.le_of_dvd (by omega) (hd _ ?_);have e:((C.map List.length).take (k+1))=(C.take (k+1)).map List.length:=by rw[List.map_take]
  rw[e];refine xU.2 ⟨C.getD k [],?_,rfl⟩;rw[dL [] hk];simp
 have hcn:C.length<=n:=by
  rw[←hC];unfold nI;rw[lW];exact Ih a n n
 simp(disch:=omega)only[go_sem]
 refine aG (λk' vars hh=> ∃(k:Nat),(∃g:Nat->V,vars= [g 0,g 1,g 2,g 3,aB ((jS ((C.map List.length).take k):Nat):Int),vl,aB k,g 7,g 8])/\k<=C.length/\Fr h2 hh/\k'=C.length-k) C.length
  ⟨0,aA rfl,iP _,Fr.refl h2,rfl⟩ ?_
 rintro k' vars h3 ⟨k,⟨g,rfl⟩,hk,f3,rfl⟩
 by_cases hlt:(k:Int)<(C.length:Int)
 case neg=>
  have d1:=fF hlt;obtain rfl:k=C.length:=by omega
  simp(disch:=omega)only[go_sem,lv,d1];refine⟨?_,(f1.trans f2).trans f3⟩;rw[List.take_of_length_le (by rw[lW];exact gV _),←hC];rfl
 have d1:=iK hlt
 have hkC:k<C.length:=by omega
 obtain⟨i1,c1,s1⟩:=hc k hkC
 have cell: ∀hh,Fr h2 hh->hh.cell id (off+k)=some (ws.getD k V.undef):=λhh f=>by rw[f.cell i1];exact c1
 have lc:=s1.lens
 rw[aQ] at lc
 have evc:=SV.eG s1
 generalize ws.getD k V.undef=vc at cell lc evc
 obtain⟨m,hm⟩:=exI (jS ((C.map List.length).take k))
 obtain⟨c,hcc⟩:=exI ((C.getD k []).length)
 have hm0:0<m:=by rw[←hm];exact h0 k
 have hm1:m<=420:=by rw[←hm];exact hle k
 have hc1:c<=420:=by rw[←hcc];exact hcl k hkC
 have step:jS ((C.map List.length).take (k+1))=m/Nat.gcd m c*c:=by
  rw[Tp (by rw[lW];exact hkC),hm]
  have:(C.map List.length).getD k 0=c:=by
   rw[←hcc,List.getD,List.getD,List.getElem?_map,fX hkC];rfl
  rw[this]
 have hs1:=hle (k+1)
 rw[step] at hs1
 rw[hcc] at lc
 rw[hm]
 simp(disch:=omega)only[go_sem,lv,d1,sh.ixa,cell h3 f3,lc]
 have fb:Fr h3 (H.mk h3.tr (h3.next+16)):=(Fr.refl h3).bF (by omega)
 refine (QI m c _ (by omega) (by omega)).mono ?_
 rintro _ h4 ⟨rfl,f4⟩
 have F4:=(f3.trans fb).trans f4
 have gpos:0<Nat.gcd m c:=Nat.gcd_pos_of_pos_left c hm0
 have gne:((Nat.gcd m c:Nat):Int)≠0:=by omega
 obtain⟨q,hq⟩:=exI (m/Nat.gcd m c)
 have hqm:q<=m:=by rw[←hq];exact Nat.div_le_self ..
 rw[hq] at step hs1
 obtain⟨r,hr⟩:=exI (q*c)
 rw[hr] at step hs1
 have ed:((m:Nat):Int).tdiv ((Nat.gcd m c:Nat):Int)=(q:Int):=by
  rw[Int.tdiv_eq_ediv_of_nonneg (by omega),←hq];rfl
 have em:(q:Int)*(c:Int)=(r:Int):=by rw[←Int.natCast_mul,hr]
 simp(disch:=omega)only[go_sem,cell h4 F4,lc,ev,evc,gne,ed,em]
 rw[fJ k]
 exact⟨C.length-(k+1),by omega,k+1,by rw[step];exact aA rfl,by omega,F4,rfl⟩
section
variable {a:List Nat} {n k j f s:Nat}
theorem SE (hk:k<(nI a n).length): ∃f,f<n/\(nI a n).getD k []=Hf a f:=by
 have h:=bD (d:=([]:List Nat)) hk;unfold nI at h;obtain⟨f,hf,e⟩:=xU.1 h;unfold Hc at hf;exact⟨f,Ot.1 (GQ.1 hf).1,e.symm⟩
theorem Xm (A:bY n a)(hj:j<n): ∃k,k<(nI a n).length/\j∈(nI a n).getD k []:=by
 obtain⟨f,hf,h1,t,ht⟩:=PI A hj
 have hm:Hf a f∈nI a n:=by
  unfold nI Hc;refine xU.2 ⟨f,?_,rfl⟩;rw[GQ];exact⟨Ot.2 hf,by simpa using h1⟩
 obtain⟨k,hk,e⟩:=Gk.1 hm;refine⟨k,hk,?_⟩;rw[List.getD,fX hk,Option.getD_some,e];exact (BI A hf).2 ⟨t,ht⟩
theorem QZ (A:bY n a)(hf:f<n):lX a f∣fM a n:=by
 rw[←yH A hf,Nh A hf,(tH A _).1 (Nat.dvd_refl _),fO hf]
theorem Qg (hs:s<lX a f):(Hf a f).getD s 0=it a s f:=by
 unfold Hf;simp [List.getD,hs]
theorem CB {z:Int}(A:bY n a)(hf:f<n)(hs:s<lX a f):
  (Hf a f).getD ((z%(lX a f:Int)+(s:Int))%(lX a f:Int)).toNat 0=(zp n a z).getD (it a s f) 0:=by
 have p0:=(kV A hf).1
 have o0:=vH A
 obtain⟨m,hm⟩:=QZ A hf
 obtain⟨e,he⟩:=exI ((z%(fM a n:Nat)).toNat)
 have h1:=Int.emod_nonneg z (b:=(fM a n:Nat)) (by omega)
 have he':(e:Int)=z%(fM a n:Nat):=by omega
 have h2:(e:Int)%(lX a f:Int)=z%(lX a f:Int):=by
  rw[he',Int.emod_emod_of_dvd _ (Int.ofNat_dvd.2 ⟨m,hm⟩)]
 have h3:((z%(lX a f:Int)+(s:Int))%(lX a f:Int)).toNat=(e+s)%lX a f:=by
  rw[←h2,Int.emod_add_emod];rfl
 rw[h3,Qg (Nat.mod_lt _ p0),←Pe A hf]
 unfold zp
 rw[he,←Nh A (xS A hf s),←rO,Nat.add_comm]
def SC (C:LN)(k s j:Nat):Prop:=(∃q,q<k/\j∈C.getD q [])∨j∈(C.getD k []).take s
open Classical in
noncomputable def Dg (C:LN)(x:List Nat)(k s j:Nat):V:=if SC C k s j then aB (x.getD j 0:Nat) else aB 0
theorem RZ {C:LN}{x:List Nat}(hs:s<(C.getD k []).length):Dg C x k (s+1) j=if j=(C.getD k []).getD s 0 then aB (x.getD j 0:Nat) else Dg C x k s j:=by
 classical
 unfold Dg
 have e:SC C k (s+1) j↔SC C k s j∨j=(C.getD k []).getD s 0:=by
  unfold SC;rw[dL 0 hs,Bw,List.mem_singleton,or_assoc]
 by_cases h1:j=(C.getD k []).getD s 0
 ·rw[if_pos h1,if_pos (e.2 (.inr h1))]
 ·rw[if_neg h1]
  by_cases h2:SC C k s j
  ·rw[if_pos h2,if_pos (e.2 (.inl h2))]
  ·rw[if_neg h2,if_neg (λh=>(e.1 h).elim h2 h1)]
theorem NI {C:LN}{x:List Nat}:Dg C x k (C.getD k []).length j=Dg C x (k+1) 0 j:=by
 classical
 unfold Dg
 have e:SC C k (C.getD k []).length j↔SC C (k+1) 0 j:=by
  unfold SC;rw[List.take_length,List.take_zero];constructor
  ·rintro (⟨q,h1,h2⟩|h)
   ·exact .inl ⟨q,by omega,h2⟩
   ·exact .inl ⟨k,by omega,h⟩
  ·rintro (⟨q,h1,h2⟩|h)
   ·by_cases e:q=k
    ·subst e;exact .inr h2
    ·exact .inl ⟨q,by omega,h2⟩
   ·cases h
 by_cases h:SC C k (C.getD k []).length j
 ·rw[if_pos h,if_pos (e.1 h)]
 ·rw[if_neg h,if_neg (λh2=>h (e.2 h2))]
theorem TL (u:V)(z:Int)(n:Nat)(a:List Nat)(h:H)(n0:1<=n)(hn:n<=64)(A:bY n a)(hu:SI h u (zi a)):
  Ev T 84 [u,aB z] h (λv h'=> ∃vl,v= .tup [vl,aB 0]/\SI h' vl (zi (zp n a z))/\Fr h h'):=by
 refine bP yP rfl rfl ?_
 simp(disch:=omega)only[go_sem,yP,aE]
 refine (sA u _ h (by rw[aQ,A.len];omega) hu).mono ?_
 rw[Qd A n0 (by omega)]
 rintro _ h1 ⟨rfl,f1⟩
 have lu:=hu.lens
 rw[aQ,A.len] at lu
 simp(disch:=omega)only[go_sem]
 refine aY (λhc=>(hc rfl).elim) (λ_=>?_)
 obtain⟨S,hS⟩:=exI h1.next
 obtain⟨h2,e2,n2,g2,o2,f2⟩:=fR hS (rc n λ_=>aB 0)
 simp(disch:=omega)only[go_sem,lu,lD h1 n (by omega),hS,e2]
 refine (AW u n a h2 hn A (hu.mono (f1.trans f2))).mono ?_
 rintro vl h3 ⟨ws,ol,pl,f3⟩
 obtain⟨C,hC⟩:=exI (nI a n)
 rw[hC] at pl
 obtain⟨lv,id,off,sh,hc⟩:=gG.open ol.sv pl
 have hcn:C.length<=n:=by
  rw[←hC];unfold nI;rw[lW];exact Ih a n n
 have X:bY n (zp n a z):=lJ A _
 have n3:=f3.next
 have F13:=f2.trans f3
 have g3:h3.get S=some (.cells false (rc n λ_=>aB 0)):=by rw[f3.get S (by omega)];exact g2
 have hidS: ∀k,k<C.length->id<h3.next:=λk hk=>(hc k hk).1
 have gC: ∀k,k<C.length-> ∃f,f<n/\C.getD k []=Hf a f:=λk hk=>by rw[←hC] at hk ⊢;exact SE hk
 obtain⟨x,hx⟩:=exI (zp n a z)
 rw[hx] at X ⊢
 simp(disch:=omega)only[go_sem]
 refine bT (λvs hh=>(∃g:Nat->V,vs= [g 0,g 1,g 2,g 3,g 4,.sl S 0 n (.kn n),g 6,g 7,g 8,g 9,g 10,g 11,g 12])/\hh.get S=some (.cells false (rc n (Dg C x C.length 0)))/\h3.next<=hh.next/\ ∀q,q<h3.next->q≠S->hh.get q=h3.get q) ?_ ?_
 ·refine aG (λk' vars hh=> ∃(k:Nat),(∃g:Nat->V,vars= [g 0,aB z,g 2,g 3,g 4,.sl S 0 n (.kn n),vl,aB k,g 8,g 9,g 10,g 11,g 12])/\k<=C.length/\hh.get S=some (.cells false (rc n (Dg C x k 0)))/\h3.next<=hh.next/\(∀q,q<h3.next->q≠S->hh.get q=h3.get q)/\k'=C.length-k) C.length
   ⟨0,aA rfl,iP _,?_,gV _,λ_ _ _=>rfl,rfl⟩ ?_
  ·rw[g3,show rc n (Dg C x 0 0)=rc n λ_=>aB 0 from bL λj _=>?_]
   unfold Dg
   rw[if_neg]
   rintro (⟨q,hq,_⟩|h)
   ·omega
   ·rw[List.take_zero] at h;cases h
  rintro k' vars h4 ⟨k,⟨g,rfl⟩,hk,gS,n4,o4,rfl⟩
  by_cases hlt:(k:Int)<(C.length:Int)
  case neg=>
   have d1:=fF hlt;obtain rfl:k=C.length:=by omega
   simp(disch:=omega)only[go_sem,lv,d1];exact⟨aA rfl,gS,n4,o4⟩
  have d1:=iK hlt
  have hkC:k<C.length:=by omega
  obtain⟨i1,c1,s1⟩:=hc k hkC
  obtain⟨f,hf,ef⟩:=gC k hkC
  have p0:=(kV A hf).1
  have ple:=Iv A hf
  have lc:=s1.si.lens
  rw[aQ,ef,lT] at lc
  have hid2:h2.next<=id∨C.length=0:=by
   rcases ol with ⟨_,e⟩|⟨i,m,cap,rest,e,e2,e3,e4,e5,e6⟩
   ·have:=aZ.length pl
    rw[e,List.length_nil] at this;exact .inr this.symm
   ·have:=sh.ixa .i64 0 (by omega) (by omega)
    rw[e,zQ (by omega) (by rw[Nat.mul_one] at e2;have:=aZ.length pl;omega)] at this;simp only[Option.some.injEq,V.ptr.injEq] at this;exact .inl (by omega)
  have cl4:h4.cell id (off+k)=some (ws.getD k V.undef):=by
   unfold H.cell;rw[o4 id i1 (by omega)];exact c1
  generalize ws.getD k V.undef=vc at c1 s1 lc cl4
  obtain⟨idc,offc,shc,hidc,hcc⟩:=s1.si.open
  rw[aQ,ef,lT] at shc hidc hcc
  have hcS:idc≠S:=by
   have ho:=s1.off;rcases s1.si with ⟨_,h0⟩|⟨i,o,len,cap,ro,vs,e,e2,e3,_⟩
   ·have:(ints (zi (C.getD k []))).length=0:=by rw[h0];rfl
    rw[aM,aQ,ef,lT] at this;omega
   ·rw[aM,aQ,ef,lT,Nat.mul_one] at e2
    rw[e] at ho;have h7:=shc.ixa .i64 0 (by omega) (by omega);rw[e,zQ (by omega) (by omega)] at h7;simp only[Option.some.injEq,V.ptr.injEq] at h7;have ho': ¬i<h2.next:=ho;omega
  have evc:=SV.eG s1.si
  simp(disch:=omega)only[go_sem,lv,d1,sh.ixa,cl4]
  refine uV (λvs hh=>(∃g:Nat->V,vs= [g 0,aB z,g 2,g 3,g 4,.sl S 0 n (.kn n),vl,aB k,g 8,g 9,g 10,g 11,g 12])/\hh.get S=some (.cells false (rc n (Dg C x (k+1) 0)))/\h3.next<=hh.next/\(∀q,q<h3.next->q≠S->hh.get q=h3.get q)) ?_ ?_
  ·refine aG (λk' vars hh=> ∃(s:Nat),(∃g:Nat->V,vars= [g 0,aB z,g 2,g 3,g 4,.sl S 0 n (.kn n),vl,aB k,vc,aB s,g 10,g 11,g 12])/\s<=lX a f/\hh.get S=some (.cells false (rc n (Dg C x k s)))/\h3.next<=hh.next/\(∀q,q<h3.next->q≠S->hh.get q=h3.get q)/\k'=lX a f-s) (lX a f)
    ⟨0,aA rfl,iP _,gS,n4,o4,rfl⟩ ?_
   clear g gS n4 o4 cl4
   rintro k' vars h5 ⟨s,⟨g,rfl⟩,hs,gS,n5,o5,rfl⟩
   by_cases hlt2:(s:Int)<(lX a f:Int)
   case neg=>
    have d2:=fF hlt2;obtain rfl:s=lX a f:=by omega
    simp(disch:=omega)only[go_sem,lc,d2];refine⟨aA rfl,?_,n5,o5⟩;rw[gS];congr 2;refine bL λj _=>?_
    rw[←NI,ef,lT]
   have d2:=iK hlt2
   have hsp:s<lX a f:=by omega
   have ccell: ∀(hh:H),(∀q,q<h3.next->q≠S->hh.get q=h3.get q)-> ∀t,t<lX a f->hh.cell idc (offc+t)=some (aB ((Hf a f).getD t 0:Nat)):=λhh o t ht=>by
    unfold H.cell;rw[o idc (hidc (by omega)) hcS];show h3.cell idc (offc+t)=_;rw[hcc t ht];congr 2;simp [zi,List.getD,lT,ht]
   have cs:=ccell h5 o5 s hsp
   have kl:=xS A hf s
   rw[Qg hsp] at cs
   have hb: ∀q,q<h3.next->q≠S->(H.mk h5.tr (h5.next+19)).get q=h3.get q:=o5
   have csb:=ccell _ hb s hsp
   rw[Qg hsp] at csb
   have pp:(0:Int)<(lX a f:Int):=by omega
   simp(disch:=omega)only[go_sem,lc,d2,shc.ixa,cs]
   refine (Zn z (lX a f) _ pp (by omega)).mono ?_
   rintro _ hx1 ⟨rfl,e⟩
   obtain rfl:=e.symm
   have r1:=Ka z pp
   simp(disch:=omega)only[go_sem,csb,evc,lc]
   refine (Zn (z%(lX a f:Int)+(s:Int)) (lX a f) _ pp (by omega)).mono ?_
   rintro _ hx2 ⟨rfl,e⟩
   obtain rfl:=e.symm
   have r2:=Ka (z%(lX a f:Int)+(s:Int)) pp
   have hpt:=CB (z:=z) A hf hsp
   obtain⟨t,ht⟩: ∃t:Nat,(z%(lX a f:Int)+(s:Int))%(lX a f:Int)=(t:Int):=⟨_,(Int.toNat_of_nonneg r2.1).symm⟩
   rw[ht] at hpt r2 ⊢
   rw[Int.toNat_natCast,hx] at hpt
   have ct:=ccell _ hb t (by omega)
   rw[hpt] at ct
   obtain⟨hm,ehm,nhm,ghm⟩: ∃hm:H,H.mk h5.tr (h5.next+19)=hm/\hm.next=h5.next+19/\ ∀q,hm.get q=h5.get q:=⟨_,rfl,rfl,λ_=>rfl⟩
   rw[ehm] at ct csb ⊢
   obtain⟨p,hp⟩:=exI (it a s f)
   rw[hp] at ct csb kl ⊢
   have e3:decide ((p:Int)<0)=false:=fF (by omega)
   have e4:decide ((n:Int)<=(p:Int))=false:=fF (by omega)
   have gSm:hm.get S=some (.cells false (rc n (Dg C x k s))):=by rw[ghm];exact gS
   have pt:=bW (vs:=rc n (Dg C x k s)) (off:=p) (by rw[eU];exact kl) hm S (aB (x.getD p 0:Nat))
   rw[iY] at pt
   obtain⟨h6,e6,n6,g6,o6⟩:=xX hm S (rc n λj=>if j=p then aB (x.getD p 0:Nat) else Dg C x k s j)
   rw[e6] at pt
   simp(disch:=omega)only[go_sem,csb,evc,lc,shc.ixa,ct,e3,e4,gSm,pt]
   rw[fJ s]
   refine⟨lX a f-(s+1),by omega,s+1,aA rfl,by omega,?_,by omega,λq h1 h2=>by rw[o6 q h2,ghm];exact o5 q h1 h2,rfl⟩
   rw[g6]
   congr 2
   refine bL λj _=>?_
   rw[RZ (by rw[ef,lT];exact hsp),ef,Qg hsp,hp]
   by_cases ej:j=p
   ·rw[if_pos ej,if_pos ej,ej]
   ·rw[if_neg ej,if_neg ej]
  clear g gS n4 o4 cl4
  rintro vars h5 ⟨⟨g,rfl⟩,gS,n5,o5⟩
  simp(disch:=omega)only[go_sem]
  rw[fJ k]
  exact⟨C.length-(k+1),by omega,k+1,aA rfl,by omega,gS,n5,o5,rfl⟩
 rintro vars h4 ⟨⟨g,rfl⟩,gS,n4,o4⟩
 simp(disch:=omega)only[go_sem]
 refine⟨_,rfl,?_,?_⟩
 ·have e:rc n (Dg C x C.length 0)=ints (zi x):=by
   have e1:=Jx x;rw[X.len] at e1;rw[←e1];refine bL λj hj=>?_
   unfold Dg;obtain⟨k,hk,hm⟩:=Xm A hj;rw[hC] at hk hm;rw[if_pos (.inl ⟨k,hk,hm⟩)]
  rw[e] at gS;have:=SV.all (h:=h4) (id:=S) (ro:=false) (vs:=ints (zi x)) (sz:=1) (len:=n) (by rw[aM,aQ,X.len,Nat.mul_one]) (by omega) gS (.kn n);exact this
 ·refine⟨by have:=f1.next;omega,λq hq=>?_⟩
  have:=f1.next
  rw[o4 q (by omega) (by omega),F13.get q (by omega)]
  exact f1.get q hq
end
section
variable {O:List (List Int)} {R:List (List (List Int))}
theorem xI {h:H}{v:V}(s:SR h v O):dC v=some (aB (O.length:Int))/\eG v v=true/\v.cells= [v]/\v.one=true/\ ∃(id off:Nat) (ws:List V),Sl v 1 O.length id off/\ ∀i,i<O.length->id<h.next/\h.cell id (off+i)=some (ws.getD i V.undef)/\SI h (ws.getD i V.undef) (O.getD i []):=by
 have lv:=s.lens;obtain⟨ws,sv,al⟩:=s;have hl:=aZ.length al;obtain⟨id,off,sh,hid,hc⟩:=SV.shape sv O.length (by omega) (by omega);exact⟨lv,SV.eG sv,(SV.dS sv).1,(SV.dS sv).2.1,id,off,ws,sh,λi hi=>⟨hid (by omega),by rw[hc i (by omega)];simp [List.getD,show i<ws.length by omega],Ow al hi⟩⟩
theorem Cm {h:H}{v:V}(s:ZM h v R):dC v=some (aB (R.length:Int))/\eG v v=true/\v.cells= [v]/\v.one=true/\ ∃(id off:Nat) (ws:List V),Sl v 1 R.length id off/\ ∀i,i<R.length->id<h.next/\h.cell id (off+i)=some (ws.getD i V.undef)/\SR h (ws.getD i V.undef) (R.getD i []):=by
 obtain⟨ws,sv,al,_⟩:=s;have hl:=aZ.length al;obtain⟨id,off,sh,hid,hc⟩:=SV.shape sv R.length (by omega) (by omega);refine⟨by unfold dC;rw[SV.len sv (n:=R.length) (by omega) (by omega)];rfl,SV.eG sv,(SV.dS sv).1,(SV.dS sv).2.1,id,off,ws,sh,λi hi=>⟨hid (by omega),by rw[hc i (by omega)];simp [List.getD,show i<ws.length by omega],?_⟩⟩;have:=aZ.get al i (by omega) hi;rw[List.getD,List.getD,fX (show i<ws.length by omega),fX hi];exact this
structure XH (n:Nat)(O:List (List Int))(R:List (List (List Int)))(i k:Nat):Prop where
 row: ∀j,j<i->(O.getD j []).length<=n/\(O.getD j []).length=(R.getD j []).length
 perm: ∀j,j<i-> ∀x∈R.getD j [],x.length=n/\mZ x=true
 last: ∀x∈(R.getD i []).take k,x.length=n/\mZ x=true
theorem XH.nat {n:Nat}(f:XH n O R n 0)(lr:R.length=n): ∃R':oJ,R=R'.map (List.map zi)/\ ∀g∈R'.flatten,bY n g:=by
 have key: ∀r∈R,∀x∈r,x.length=n/\mZ x=true:=λr hr x hx=>by
  obtain⟨i,hi,rfl⟩:=Gk.1 hr;exact f.perm i (by omega) x (by rw[List.getD,fX hi];exact hx)
 refine⟨R.map (List.map (List.map Int.toNat)),?_,λg hg=>?_⟩
 ·rw[List.map_map]
  refine (List.map_id R).symm.trans (List.map_congr_left λr hr=>?_);show r=(r.map (List.map Int.toNat)).map zi;rw[List.map_map];exact (List.map_id r).symm.trans (List.map_congr_left λx hx=>(Ez (key r hr x hx).2).1)
 ·obtain⟨r',hr',hg⟩:=List.mem_flatten.1 hg
  obtain⟨r,hr,rfl⟩:=xU.1 hr';obtain⟨x,hx,rfl⟩:=xU.1 hg;have:=(Ez (key r hr x hx).2).2;rwa [(key r hr x hx).1] at this
theorem XH.next {n:Nat}{i k:Nat}(f:XH n O R i k)(hk:(R.getD i []).length<=k)(h1:(O.getD i []).length<=n)(h2:(O.getD i []).length=(R.getD i []).length):XH n O R (i+1) 0:=by
 have hl:=f.last;rw[List.take_of_length_le hk] at hl;refine⟨λj hj=>?_,λj hj=>?_,λx hx=>by rw[List.take_zero] at hx;cases hx⟩
 ·by_cases e:j=i
  ·subst e;exact⟨h1,h2⟩
  ·exact f.row j (by omega)
 ·by_cases e:j=i
  ·subst e;exact hl
  ·exact f.perm j (by omega)
theorem AT {x:List Int}(h1:1<=x.length)(h2:x.length<=64):Lo x=0↔mZ x=true:=by
 unfold Lo;rw[if_neg (by omega)];constructor
 ·intro h
  split at h
  ·assumption
  ·omega
 ·intro h;rw[if_pos h]
theorem Mu (vc:V)(d:Int)(O:List (List Int))(R:List (List (List Int)))(h:H)(hc:Ei h vc d O R)(hd:d<=7∨64<d)(so:kN O)(sr:kS R):
  Ev T 109 [vc] h (λv h'=>v= aB (jC d O R)/\Fr h h'):=by
 have hc0:=hc
 obtain⟨vO,vR,rfl,sO,sR⟩:=hc
 refine bP jO rfl rfl ?_
 obtain⟨lO,evO,_,oneO,idO,offO,wsO,shO,cO⟩:=xI sO
 obtain⟨lR,evR,_,oneR,idR,offR,wsR,shR,cR⟩:=Cm sR
 obtain⟨B,hB⟩:=exI h.next
 obtain⟨h1,e1,n1,g1,o1,f1⟩:=fR hB [aB d,vO,vR]
 have c0: ∀hh,Fr h1 hh->hh.cell B 0=some (aB d):=λhh f=>by rw[f.cell (by omega),H.aF g1];rfl
 have c1: ∀hh,Fr h1 hh->hh.cell B 1=some vO:=λhh f=>by rw[f.cell (by omega),H.aF g1];rfl
 have c2: ∀hh,Fr h1 hh->hh.cell B 2=some vR:=λhh f=>by rw[f.cell (by omega),H.aF g1];rfl
 have rB: ∀hh,Fr h1 hh->hh.row B 0 3=some [aB d,vO,vR]:=λhh f=>aU (by rw[f.get B (by omega)];exact g1)
 have bx:=bM h (v:= aB d) (u:=vO) (w:=vR) rfl oneO oneR
 by_cases hd1:d<1
 ·have x1:decide (d<1)=true:=decide_eq_true hd1
  simp(disch:=omega)only[go_sem,jO,aE,bx,hB,e1,c0 h1 (Fr.refl _),x1]
  exact⟨by unfold jC;rw[if_pos (.inl hd1)],f1⟩
 have x1:decide (d<1)=false:=decide_eq_false hd1
 by_cases hd2:64<d
 ·have x2:decide (64<d)=true:=decide_eq_true hd2
  simp(disch:=omega)only[go_sem,jO,aE,bx,hB,e1,c0 h1 (Fr.refl _),x1,x2]
  exact⟨by unfold jC;rw[if_pos (.inr hd2)],f1⟩
 have x2:decide (64<d)=false:=decide_eq_false hd2
 obtain⟨n,rfl⟩: ∃n:Nat,d=(n:Int):=⟨d.toNat,by omega⟩
 have hn1:1<=n:=by omega
 have hn7:n<=7:=by omega
 by_cases hl1:O.length=n
 case neg=>
  have x3:decide ((O.length:Int)≠(n:Int))=true:=iK (by omega);simp(disch:=omega)only[go_sem,jO,aE,bx,hB,e1,c0 h1 (Fr.refl _),x1,x2,c1 h1 (Fr.refl _),lO,x3];exact⟨by rw[uX hn1 (by omega) (λf=>hl1 f.lo)],f1⟩
 have x3:decide ((O.length:Int)≠(n:Int))=false:=fF (by omega)
 by_cases hl2:R.length=n
 case neg=>
  have x4:decide ((R.length:Int)≠(n:Int))=true:=iK (by omega);simp(disch:=omega)only[go_sem,jO,aE,bx,hB,e1,c0 h1 (Fr.refl _),x1,x2,c1 h1 (Fr.refl _),lO,x3,c2 h1 (Fr.refl _),lR,x4];exact⟨by rw[uX hn1 (by omega) (λf=>hl2 f.lr)],f1⟩
 have x4:decide ((R.length:Int)≠(n:Int))=false:=fF (by omega)
 simp(disch:=omega)only[go_sem,jO,aE,bx,hB,e1,c0 h1 (Fr.refl _),x1,x2,c1 h1 (Fr.refl _),lO,x3,c2 h1 (Fr.refl _),lR,x4]
 have bad: ¬GO n O R->jC (n:Int) O R=3:=uX hn1 (by omega)
 refine aG (λk' vars hh=> ∃(i:Nat) (vl:V) (wl:List V),(∃g:Nat->V,vars= [g 0,.ptr B 0,g 2,aB n,vl,aB i,g 6,g 7,g 8,g 9,g 10,g 11,g 12,g 13,g 14,g 15])/\i<=n/\dG hh vl 1 wl h1.next/\aZ (SI h1) wl (R.take i).flatten/\XH n O R i 0/\Fr h1 hh/\k'=n-i) n
   ⟨0,.aC, [],aA rfl,iP _,dG.aC _ _ _,trivial,⟨λj hj=>by omega,λj hj=>by omega,λx hx=>by rw[List.take_zero] at hx;cases hx⟩,Fr.refl h1,rfl⟩ ?_
 rintro k' vars h2 ⟨i,vl,wl,⟨g,rfl⟩,hi,ow,al,fr,F,rfl⟩
 by_cases hlt:(i:Int)<(n:Int)
 case pos=>
  have d1:=iK hlt;have hin:i<n:=by omega
  obtain⟨i1,ci,si⟩:=cO i (by omega);obtain⟨j1,cj,sj⟩:=cR i (by omega);have lo:=si.lens;have evo:=SV.eG si;obtain⟨lr,evr,_,_,idr,offr,wsr,shr,cr⟩:=xI sj;have cOi: ∀hh,Fr h1 hh->hh.cell idO (offO+i)=some (wsO.getD i V.undef):=λhh f=>by rw[(f1.trans f).cell i1];exact ci
  have cRi: ∀hh,Fr h1 hh->hh.cell idR (offR+i)=some (wsR.getD i V.undef):=λhh f=>by rw[(f1.trans f).cell j1];exact cj
  generalize wsO.getD i V.undef=vo at cOi lo evo;generalize wsR.getD i V.undef=vr at cRi lr evr shr sj;have sri:=sr.2 i (by omega)
  by_cases q1:(n:Int)<((O.getD i []).length:Int)
  case pos=>
   have y1:decide ((n:Int)<((O.getD i []).length:Int))=true:=decide_eq_true q1;simp(disch:=omega)only[go_sem,d1,c1 h2 F,c2 h2 F,shO.ixa,shR.ixa,cOi h2 F,cRi h2 F,lo,lr,y1];exact⟨by rw[bad λf=>by have:=f.row i hin;omega],f1.trans (F.bF (by omega))⟩
  have y1:decide ((n:Int)<((O.getD i []).length:Int))=false:=decide_eq_false q1
  by_cases q2:(O.getD i []).length=(R.getD i []).length
  case neg=>
   have y2:decide (((O.getD i []).length:Int)≠((R.getD i []).length:Int))=true:=iK (by omega);simp(disch:=omega)only[go_sem,d1,c1 h2 F,c2 h2 F,shO.ixa,shR.ixa,cOi h2 F,cRi h2 F,lo,lr,y1,y2];exact⟨by rw[bad λf=>by have:=f.row i hin;omega],f1.trans (F.bF (by omega))⟩
  have y2:decide (((O.getD i []).length:Int)≠((R.getD i []).length:Int))=false:=fF (by omega);have Fb:Fr h1 (H.mk h2.tr (h2.next+23)):=F.bF (by omega);have owb:dG (H.mk h2.tr (h2.next+23)) vl 1 wl h1.next:=ow.fr ((Fr.refl h2).bF (by omega));simp(disch:=omega)only[go_sem,d1,c1 h2 F,c2 h2 F,shO.ixa,shR.ixa,cOi h2 F,cRi h2 F,lo,lr,y1,y2];generalize (H.mk h2.tr (h2.next+23))=h3 at*;refine aG (λk' vars hh=> ∃(k:Nat) (vl:V) (wl:List V),(∃g:Nat->V,vars= [g 0,.ptr B 0,g 2,aB n,vl,aB i,aB k,g 7,g 8,g 9,g 10,g 11,g 12,g 13,g 14,g 15])/\k<=(R.getD i []).length/\dG hh vl 1 wl h1.next/\aZ (SI h1) wl ((R.take i).flatten++(R.getD i []).take k)/\XH n O R i k/\Fr h1 hh/\k'=(R.getD i []).length-k) (R.getD i []).length
   ⟨0,vl,wl,aA rfl,iP _,owb,by rw[List.take_zero,List.append_nil];exact al,fr,Fb,rfl⟩ ?_
  clear ow owb al fr Fb;rintro k' vars h4 ⟨k,vl,wl,⟨g,rfl⟩,hk,ow,al,fr,F4,rfl⟩
  by_cases hlk:(k:Int)<((R.getD i []).length:Int)
  case neg=>
   have d2:decide ((k:Int)<((R.getD i []).length:Int))=false:=decide_eq_false hlk;have hk2:(R.getD i []).length<=k:=by omega
   rw[List.take_of_length_le hk2,←Mi (by omega)] at al;simp(disch:=omega)only[go_sem,c2 h4 F4,shR.ixa,cRi h4 F4,lr,d2];rw[fJ i];exact⟨n-(i+1),by omega,i+1,vl,wl,aA rfl,by omega,ow,al,fr.next hk2 (by omega) q2,F4,rfl⟩
  have d2:decide ((k:Int)<((R.getD i []).length:Int))=true:=decide_eq_true hlk;have hkl:k<(R.getD i []).length:=by omega
  obtain⟨k1,ck,sk⟩:=cr k hkl;have lk:=sri.2 k hkl;have cRk: ∀hh,Fr h1 hh->hh.cell idr (offr+k)=some (wsr.getD k V.undef):=λhh f=>by rw[(f1.trans f).cell k1];exact ck
  generalize wsr.getD k V.undef=vx at cRk sk;have mx:(R.getD i []).getD k []∈R.getD i []:=bD hkl;obtain⟨x,hx⟩:=exI ((R.getD i []).getD k []);rw[hx] at sk mx lk;have lx:=sk.lens;have evx:=SV.eG sk
  by_cases q3:x.length=n
  case neg=>
   have y3:decide ((x.length:Int)≠(n:Int))=true:=iK (by omega);simp(disch:=omega)only[go_sem,c2 h4 F4,shR.ixa,cRi h4 F4,lr,d2,shr.ixa,cRk h4 F4,lx,y3];exact⟨by rw[bad λf=>q3 (f.perm i hin x mx).1],f1.trans F4⟩
  have y3:decide ((x.length:Int)≠(n:Int))=false:=fF (by omega);simp(disch:=omega)only[go_sem,c2 h4 F4,shR.ixa,cRi h4 F4,lr,d2,shr.ixa,cRk h4 F4,lx,y3];refine (sA vx x _ lk (sk.mono (f1.trans F4))).mono ?_;rintro _ h5 ⟨rfl,f5⟩;have F5:=F4.trans f5
  by_cases q4:Lo x=0
  case neg=>
   have y4:decide (Lo x≠0)=true:=decide_eq_true q4;simp(disch:=omega)only[go_sem,y4];exact⟨by rw[bad λf=>q4 ((AT (by omega) (by omega)).2 (f.perm i hin x mx).2)],f1.trans F5⟩
  have y4:decide (Lo x≠0)=false:=fF (by omega);have ok:=(AT (by omega) (by omega)).1 q4;have hws:=al.length
  have accl:((R.take i).flatten++(R.getD i []).take k).length<=400:=by
   have h1:=nX (m:=7) (R:=R) (i:=i) (by omega) (λj hj=>by have:=fr.row j hj;omega);have h2:i*7<=7*7:=Nat.mul_le_mul_right 7 (by omega);rw[pW,Nn];omega
  have one:=SV.dS sk;obtain⟨h6,a6,ow6,f6,n6,o6⟩:=zK (v:=vx) (ow.fr f5) F5 (by omega) (bytes:=24) (by omega);simp(disch:=omega)only[go_sem,y4,c2 h5 F5,shR.ixa,cRi h5 F5,shr.ixa,cRk h5 F5,dB _ (z:= .aC) one.1 one.2.1,a6];rw[fJ k];refine⟨(R.getD i []).length-(k+1),by omega,k+1,_,_,aA rfl,by omega,ow6,?_,⟨fr.row,fr.perm,λy hy=>?_⟩,f6,rfl⟩
  ·rw[dL [] hkl,hx,←List.append_assoc]
   exact al.append ⟨sk.mono f1,trivial⟩
  ·rw[dL [] hkl,hx] at hy
   rcases Bw.1 hy with hy|hy
   ·exact fr.last y hy
   ·rw[List.mem_singleton.1 hy];exact⟨q3,ok⟩
 have d1:=fF hlt
 obtain rfl:i=n:=by omega
 rw[List.take_of_length_le (by omega)] at al
 obtain⟨R',eR,hP⟩:=fr.nat hl2
 have eF:R.flatten=R'.flatten.map zi:=by rw[eR,List.map_flatten]
 have fl:R.flatten.length<=49:=by
  have h1:=nX (m:=7) (R:=R) (i:=R.length) (by omega) (λj hj=>by have:=fr.row j (by omega);omega);have h2:R.length*7<=7*7:=Nat.mul_le_mul_right 7 (by omega);rw[List.take_of_length_le (by omega)] at h1;omega
 have hl0:R'.flatten.length<=49:=by rw[eF,lW] at fl;exact fl
 have hws:=al.length
 have lvl:=dG.lens ow hws
 have d5:decide ((4096:Int)<(R.flatten.length:Int))=false:=fF (by omega)
 rw[eF] at al
 simp(disch:=omega)only[go_sem,d1,lvl,d5]
 refine (Dh vl i R'.flatten h2 hn1 hn7 (by omega) ⟨wl,ow.sv,al.mono λ_ _ x=>x.mono F⟩ hP).mono ?_
 rintro _ h3 ⟨vm,O2,R2,rfl,gc,f3⟩
 obtain⟨_,⟨uO,uR,rfl,tO,tR⟩⟩:True/\Ei h3 vm (i:Int) (O2.map zi) (R2.map (List.map zi)):=⟨trivial,gc.ch⟩
 obtain⟨_,_,_,onO,_⟩:=xI tO
 obtain⟨_,_,_,onR,_⟩:=Cm tR
 obtain⟨M,hM⟩:=exI h3.next
 obtain⟨h4,e4,n4,g4,o4,f4⟩:=fR hM [aB 0,.aC,.aC]
 have nf3:=f3.next
 have nF:=F.next
 have F5:Fr h3 (h4.set M (bX [aB i,uO,uR])):=f4.set (by omega) _
 have g5:(h4.set M (bX [aB i,uO,uR])).get M=bX [aB i,uO,uR]:=H.aT ..
 simp(disch:=omega)only[go_sem,hM,e4,gI h4 M 0 (v:= aB i) (u:=uO) (w:=uR) rfl onO onR,g4,gZ]
 generalize h4.set M (bX [aB i,uO,uR])=h5 at F5 g5 ⊢
 have G5:Fr h1 h5:=(F.trans f3).trans F5
 obtain⟨so2,sr2⟩:=gc.small
 simp(disch:=omega)only[go_sem,rB h5 G5,aU g5]
 refine (Pz _ _ (i:Int) (i:Int) O (O2.map zi) R (R2.map (List.map zi)) h5 (hc0.mono (f1.trans G5)) (Ei.mono ⟨uO,uR,rfl,tO,tR⟩ F5) so so2 sr sr2).mono ?_
 rintro _ h6 ⟨rfl,f6⟩
 have iff:=Yn.iff (O:=O) hn1 (by omega) hP gc.isc
 rw[←eR] at iff
 by_cases hq:(i:Int)=(i:Int)/\O=O2.map zi/\R=R2.map (List.map zi)
 ·have ed:=iK hq
  rw[ed]
  simp(disch:=omega)only[go_sem]
  refine⟨?_,f1.trans (G5.trans f6)⟩
  unfold jC
  rw[if_neg (by omega),if_pos (iff.2 hq.2)]
 ·have ed:=fF hq
  rw[ed]
  simp(disch:=omega)only[go_sem]
  refine⟨?_,f1.trans (G5.trans f6)⟩
  unfold jC
  rw[if_neg (by omega),if_neg (λc=>hq ⟨rfl,iff.1 c⟩)]
end
theorem FV {W:Nat->Prop}(vc:V)(n:Nat)(O:LN)(R:oJ)(G:List Nat->Prop)(h:H)(gc:GC W h vc n O R G):
  Ev T 110 [vc] h (λv h'=> ∃S,v= .tup [.sl S 0 (n+1) (.kn (n+1)),.bool true]/\h.next<=S/\S<h'.next/\h'.get S=some (.cells false (rc (n+1) λj=> aB (Am O (n-j) j:Nat)))/\Fr h h'):=by
 obtain⟨vO,vR,e,sO,sR⟩:=gc.ch
 subst e
 refine bP uS rfl rfl ?_
 have isc:=gc.isc
 have n0:=gc.n0
 have n7:=gc.n7
 obtain⟨wO,tO,aO⟩:=sO
 have lO:=aO.length
 rw[lW,isc.lo] at lO
 have oneO:=tO.dS.2.1
 have oneR:vR.one=true:=Gm sR
 obtain⟨B,hB⟩:=exI h.next
 obtain⟨h1,e1,n1,g1,o1,f1⟩:=fR hB [aB n,vO,vR]
 have bx:=bM h (v:= aB n) (u:=vO) (w:=vR) rfl oneO oneR
 have en:(n:Int)+1=((n+1:Nat):Int):=by omega
 have mk:=lD h1 (n+1) (by omega)
 rw[n1] at mk
 obtain⟨h2,e2,n2,g2,o2,f2⟩:=fR n1 (rc (n+1) λ_=> aB 0)
 rw[e2] at mk
 have g12:h2.get B=some (.cells false [aB n,vO,vR]):=by rw[o2 _ (by omega)];exact g1
 have pt: ∀(hh:H) (S:Nat) (F:Nat->V) (k:Nat) (v:V),k<n+1->fG (some (.cells false (rc (n+1) F))) hh S k [v]=some (hh.set S (some (.cells false (rc (n+1) λj=>if j=k then v else F j)))):=λhh S F k v hk=>by rw[bW (by rw[eU];exact hk),iY]
 obtain⟨h3,e3,n3,g3,o3⟩:=xX h2 (B+1) (rc (n+1) λj=>if j=n then aB 1 else aB 0)
 have g13:h3.get B=some (.cells false [aB n,vO,vR]):=by rw[o3 _ (by omega)];exact g12
 have hn1:n<n+1:=by omega
 simp(disch:=omega)only[go_sem,uS,aE,bx,hB,e1,H.aF g1,en,mk,H.aF g12,g2,pt _ _ _ n _ hn1,e3,H.aF g13]
 have F3:Fr h h3:=⟨by omega,λk hk=>by rw[o3 _ (by omega),o2 _ (by omega),o1 _ (by omega)]⟩
 have szb: ∀i,i<=n->0<Am O (n-i) i/\Am O (n-i) i<=823543:=λi hi=>by
  refine⟨Qt _ _ λj h1 h2=>(gc.row (by omega)).1,Nat.le_trans (Oh (m:=7) (by omega) _ _ λj h1 h2=>by have:=(gc.row (j:=j) (by omega)).2;omega) ?_⟩;exact Nat.le_trans (Nat.pow_le_pow_right (by omega) (show n-i<=7 by omega)) (by decide)
 refine aG (λk' vars hh=> ∃(i:Nat),(∃g:Nat->V,vars= [g 0,.ptr B 0,g 2,g 3,.sl (B+1) 0 (n+1) (.kn (n+1)),aB ((i:Int)- 1),g 6,g 7])/\i<=n/\hh.get B=some (.cells false [aB n,vO,vR])/\
   hh.get (B+1)=some (.cells false (rc (n+1) λj=>if i<=j then aB (Am O (n-j) j:Nat) else aB 0))/\B+1<hh.next/\Fr h hh/\k'=i) n
  ⟨n,aA rfl,gV _,g13,?_,by omega,F3,rfl⟩ ?_
 ·rw[g3]
  congr 2
  refine bL λj hj=>?_
  by_cases e:j=n
  ·subst e;rw[if_pos rfl,if_pos (gV _),Nat.sub_self];rfl
  ·rw[if_neg e,if_neg (by omega)]
 clear g3 g13 o3 n3 e3 h3 F3 g12 g2 o2 n2 e2 mk h2 f2
 rintro k' vars h4 ⟨i,⟨g,rfl⟩,hi,gB,gS,nx,F,hk⟩
 subst hk
 by_cases hlt:(0:Int)<=(k':Int)- 1
 case neg=>
  have d1:=fF hlt;obtain rfl:k'=0:=by omega
  simp(disch:=omega)only[go_sem,d1];refine⟨B+1,rfl,by omega,nx,?_,F⟩;rw[gS];congr 2
 have d1:=iK hlt
 obtain⟨i,rfl⟩: ∃i,k'=i+1:=⟨k'- 1,by omega⟩
 have ei:((i+1:Nat):Int)- 1=(i:Int):=by omega
 have eI:(i:Int)+1=((i+1:Nat):Int):=by omega
 rw[ei] at d1 ⊢
 have rowO:=gU aO (i:=i) (by rw[lW,isc.lo];omega) .undef []
 rw[kA zi (d:= []) (by rw[isc.lo];omega)] at rowO
 obtain⟨ido,offo,sho,hido,hco⟩:=(tO.mono F).shape n (by omega) (by omega)
 have co:h4.cell ido (offo+i)=some (wO.getD i .undef):=by rw[hco i (by omega),List.getD,fX (by omega)];rfl
 generalize wO.getD i .undef=vo at rowO co
 have lo:=rowO.lens
 rw[aQ] at lo
 obtain⟨m,hm⟩:=exI ((O.getD i []).length)
 rw[hm] at lo
 have hrow:=gc.row (j:=i) (by omega)
 rw[hm] at hrow
 have cS:h4.cell (B+1) (i+1)=some (aB ((Am O (n-(i+1)) (i+1):Nat):Int)):=by rw[iW gS (by omega),if_pos (gV _)]
 obtain⟨s,hs⟩:=exI (Am O (n-(i+1)) (i+1))
 rw[hs] at cS
 have hsb:=szb (i+1) (by omega)
 rw[hs] at hsb
 have hdiv:(1000000000000000000:Int).tdiv (m:Int)=((1000000000000000000/m:Nat):Int):=by
  rw[show (1000000000000000000:Int)=((1000000000000000000:Nat):Int) from rfl,Int.tdiv_eq_ediv_of_nonneg (by omega)];rfl
 have hq:100000000000000000<=1000000000000000000/m:=by
  rw[Nat.le_div_iff_mul_le (by omega)];omega
 have hq2:1000000000000000000/m<=1000000000000000000:=Nat.div_le_self _ _
 have d2:decide (((1000000000000000000/m:Nat):Int)<(s:Int))=false:=fF (by omega)
 have hmul:(s:Int)*(m:Int)=((m*s:Nat):Int):=by rw[Int.mul_comm];rfl
 have hms:m*s<=7*823543:=Nat.mul_le_mul (by omega) hsb.2
 have hi1:i<n+1:=by omega
 have hmz:(m:Int)≠0:=by omega
 simp(disch:=omega)only[go_sem,d1,H.aF gB,sho.ixa,co,lo,eI,cS,hdiv,hmz,d2,hmul,gS,pt _ _ _ i _ hi1]
 refine⟨i,by omega,i,aA rfl,by omega,gB,?_,by omega,?_,rfl⟩
 ·congr 2
  refine bL λj hj=>?_
  by_cases e:j=i
  ·subst e
   rw[if_pos rfl,if_pos (gV _),show n-j=(n-(j+1))+1 by omega]
   unfold Am
   rw[hm,hs]
  ·rw[if_neg e]
   by_cases e2:i+1<=j
   ·rw[if_pos e2,if_pos (by omega)]
   ·rw[if_neg e2,if_neg (by omega)]
 ·exact (F.bF (by omega)).set (by omega) _
def oS (l:List Nat)(a:Nat):Nat:=(l.filter λb=>decide (b<a)).length
theorem Wh (l:List Nat)(b a:Nat):oS (l++ [b]) a=oS l a+if b<a then 1 else 0:=by
 unfold oS;rw[List.filter_append,pW]
 by_cases h:b<a<;>simp [h]
theorem Lz: ∀{S:List Nat},S.Pairwise (· < ·)-> ∀t,t<S.length->oS S (S.getD t 0)=t
 | [],_,t,h=>by simp at h
 |x::S,hs,0,_=>by
  obtain⟨h1,_⟩:=List.pairwise_cons.1 hs;unfold oS;rw[List.length_eq_zero_iff,List.filter_eq_nil_iff];intro b hb;rcases List.mem_cons.1 hb with e|hb
  ·subst e;simp
  ·have:=h1 b hb
   simp;omega
 |x::S,hs,t+1,h=>by
  obtain⟨h1,h2⟩:=List.pairwise_cons.1 hs;have ht:t<S.length:=by simpa using h
  have ih:=Lz h2 t ht;unfold oS at ih ⊢;have e:(x::S).getD (t+1) 0=S.getD t 0:=by simp [List.getD]
  have hx:x<S.getD t 0:=h1 _ (by rw[bJ ht];exact List.getElem_mem ht);rw[e,List.filter_cons,if_pos (by simpa using hx),List.length_cons,ih]
theorem QA {l:List Nat}(nd:l.Nodup){j m:Nat}(hj:j<l.length)(hm:m<l.length):oS l (l.getD m 0)=j↔m=l.idxOf ((jQ l).getD j 0):=by
 have pm:=iV l;have hl:=pm.length_eq;have nS:(jQ l).Nodup:=pm.nodup_iff.2 nd
 have sS:(jQ l).Pairwise (· < ·):=by
  rw[List.nodup_iff_pairwise_ne] at nS;exact ((Dy l).and nS).imp λ⟨h1,h2⟩=>by omega
 have e1: ∀a,oS l a=oS (jQ l) a:=λa=>by
  unfold oS;exact ((pm.filter _).length_eq).symm
 have mm:l.getD m 0∈jQ l:=pm.mem_iff.2 (by rw[bJ hm];exact List.getElem_mem hm);obtain⟨t,ht,et⟩:=Gk.1 mm;have es:(jQ l).getD t 0=l.getD m 0:=by rw[bJ ht,et]
 rw[e1,←es,Lz sS t ht];constructor
 ·rintro rfl
  rw[es,bJ hm,nd.idxOf_getElem]
 ·intro h
  have hj':j<(jQ l).length:=by omega
  have mj:(jQ l).getD j 0∈l:=pm.mem_iff.1 (by rw[bJ hj'];exact List.getElem_mem hj')
  have h2:l.getD m 0=(jQ l).getD j 0:=by
   have hx:=List.idxOf_lt_length_iff.2 mj;rw[h,bJ hx,List.getElem_idxOf]
  rw[←es,bJ ht,bJ hj'] at h2;exact (List.getElem_inj nS).1 h2
theorem Zv {α:Type}(f:Nat->List α){s:Nat}(d:α)(hs:0<s): ∀(l:List Nat) (k:Nat),(∀a∈l,(f a).length=s)->k<l.length*s->
  k/s<l.length/\(l.flatMap f).getD k d=(f (l.getD (k/s) 0)).getD (k%s) d
 | [],k,_,h=>by simp at h
 |a::l,k,hl,h=>by
  have ha:=hl a (by simp);rw[List.flatMap_cons]
  by_cases hk:k<s
  ·rw[Nat.div_eq_of_lt hk,Nat.mod_eq_of_lt hk]
   refine⟨by simp,?_⟩;rw[List.getD,Et (by omega)];simp [List.getD]
  ·have ih:=Zv f d hs l (k-s) (λb hb=>hl b (List.mem_cons_of_mem _ hb)) (by rw[List.length_cons,Nat.succ_mul] at h;omega)
   have e1:k/s=(k-s)/s+1:=by rw[Nat.div_eq_sub_div hs (by omega)]
   have e2:k%s=(k-s)%s:=Nat.mod_eq_sub_mod (by omega);refine⟨by rw[e1,List.length_cons];omega,?_⟩;rw[e1,e2,List.getD,List.getElem?_append_right (by omega),ha];have:=ih.2;simp only[List.getD,List.getElem?_cons_succ] at this ⊢;exact this
section
variable {n:Nat} {G:List Nat->Prop} {O:LN} {R:oJ}
theorem KL (hG:tP n G)(c:eJ n G O R){d i:Nat}{x:List Nat}(hi:i+(d+1)=n)(X:bY n x){k:Nat}(hs:0<Am O d (i+1))(hk:k<Am O (d+1) i):
  k/Am O d (i+1)<(fV O x i).length/\(jQ (fV O x i)).getD (k/Am O d (i+1)) 0∈fV O x i/\
   (cK O R (d+1) i x).getD k []=(cK O R d (i+1) (mY O R x i ((jQ (fV O x i)).getD (k/Am O d (i+1)) 0))).getD (k%Am O d (i+1)) []:=by
 have hl:(jQ (fV O x i)).length=(O.getD i []).length:=by rw[(iV _).length_eq];simp [fV]
 have ms: ∀im,im∈jQ (fV O x i)↔im∈fV O x i:=λim=>(iV _).mem_iff
 obtain⟨h1,h2⟩:=Zv (λim=>cK O R d (i+1) (mY O R x i im)) [] hs (jQ (fV O x i)) k (λim him=>by
  obtain⟨_,_,_,_,_,_,Y,_⟩:=rC hG c X (by omega) ((ms im).1 him)
  exact (Eu hG c d (i+1) _ (by omega) Y).2.2) (by rw[hl];exact hk)
 refine⟨by rw[←(iV _).length_eq];exact h1,(ms _).1 (by rw[bJ h1];exact List.getElem_mem h1),h2⟩
end
theorem Hk {h hh:H}{v:V}{l:List Nat}{b:Nat}(s:SI h v (zi l))(hb:b=l.length): ∃id off,Sl v 1 b id off/\ ∀hh,Fr h hh-> ∀k,k<b->hh.cell id (off+k)=some (aB (l.getD k 0:Nat)):=by
 subst hb;obtain⟨id,off,sh,hid,hc⟩:=s.open;rw[aQ] at sh hid hc;refine⟨id,off,sh,λhh f k hk=>?_⟩;rw[f.cell (hid (by omega)),hc k hk];congr 2;rw[zi,kA _ (d:=0) hk]
theorem BO {v:V}{b:Nat}(h: ∀id off len cap,v= .sl id off len cap->b<=id):Wj (λq=>q<b) v:=by
 cases v with
 |sl id off len cap=>exact λh2=>by have:=h _ _ _ _ rfl;omega
 |_=>trivial
theorem GK {W:Nat->Prop}(vc:V)(n:Nat)(O:LN)(R:oJ)(G:List Nat->Prop)(h:H)(gc:GC W h vc n O R G)(S k0:Nat)(hS:S<h.next)
  (gS:h.get S=some (.cells false (rc (n+1) λj=> aB (Am O (n-j) j:Nat)))) (hk0:k0<Am O n 0):
  Ev T 111 [vc,.sl S 0 (n+1) (.kn (n+1)),aB k0] h (λv h'=>PV (λq=>q<h.next) h' v ((cK O R n 0 (cJ n)).getD k0 [])/\Fr h h'):=by
 obtain⟨vO,vR,e,sO,sR⟩:=gc.ch
 subst e
 refine bP tF rfl rfl ?_
 have isc:=gc.isc
 have n7:=gc.n7
 have hG:=gc.mI
 obtain⟨lO,evO,_,oneO,idO,offO,wsO,shO,cO⟩:=xI sO
 obtain⟨lR,evR,_,oneR,idR,offR,wsR,shR,cR⟩:=Cm sR
 rw[lW,isc.lo] at shO cO
 rw[lW,isc.lr] at shR cR
 obtain⟨B,hB⟩:=exI h.next
 obtain⟨h1,e1,n1,g1,o1,f1⟩:=fR hB [aB n,vO,vR]
 have c0: ∀hh,Fr h1 hh->hh.cell B 0=some (aB n):=λhh f=>by rw[f.cell (by omega),H.aF g1];rfl
 have c1: ∀hh,Fr h1 hh->hh.cell B 1=some vO:=λhh f=>by rw[f.cell (by omega),H.aF g1];rfl
 have c2: ∀hh,Fr h1 hh->hh.cell B 2=some vR:=λhh f=>by rw[f.cell (by omega),H.aF g1];rfl
 have cS: ∀hh,Fr h1 hh-> ∀j,j<n+1->hh.cell S j=some (aB (Am O (n-j) j:Nat)):=λhh f j hj=>by
  rw[(f1.trans f).cell hS,iW gS hj]
 have bx:=bM h (v:= aB n) (u:=vO) (w:=vR) rfl oneO oneR
 simp(disch:=omega)only[go_sem,tF,aE,bx,hB,e1,c0 h1 (Fr.refl _)]
 refine (BH n h1 (by omega)).mono ?_
 rintro u h2 ⟨su,f2,hu⟩
 obtain⟨L,hL⟩:=exI ((cK O R n 0 (cJ n)).getD k0 [])
 rw[hL]
 simp(disch:=omega)only[go_sem]
 refine aG (λk' vars hh=> ∃(i k:Nat) (u:V) (x:List Nat),(∃g:Nat->V,vars= [g 0,.sl S 0 (n+1) (.kn (n+1)),aB k,.ptr B 0,g 4,u,aB i,g 7,g 8,g 9,g 10,g 11,g 12,g 13,g 14,g 15,g 16])/\i<=n/\bY n x/\PV (λq=>q<h.next) hh u x/\k<Am O (n-i) i/\(cK O R (n-i) i x).getD k []=L/\Fr h1 hh/\k'=n-i) n
  ⟨0,k0,u,_,aA rfl,iP _,bY.one n,⟨su,BO λ_ _ _ _ e=>by have:=hu _ _ _ _ e;omega⟩,hk0,hL,f2,rfl⟩ ?_
 clear su f2 hL hk0 hu
 rintro k' vars h3 ⟨i,k,u,x,⟨g,rfl⟩,hi,X,su,hk,hL,F,rfl⟩
 by_cases hlt:(i:Int)<(n:Int)
 case neg=>
  have d1:=fF hlt;obtain rfl:i=n:=by omega
  simp(disch:=omega)only[go_sem,c0 h3 F,d1];rw[Nat.sub_self] at hk hL;have:k=0:=by unfold Am at hk;omega
  subst this;unfold cK at hL;have hL:x=L:=hL;subst hL;exact⟨by rw[←hB];exact su,f1.trans F⟩
 have d1:=iK hlt
 have hin:i<n:=by omega
 obtain⟨d,hd⟩: ∃d,n-i=d+1:=⟨n-i- 1,by omega⟩
 have hd':n-(i+1)=d:=by omega
 rw[hd] at hk hL
 have sp:0<Am O d (i+1):=Qt _ _ λj h1 h2=>(gc.row (by omega)).1
 obtain⟨a1,a2,a3⟩:=KL hG isc (d:=d) (by omega) X sp hk
 rw[hL] at a3
 have cs:=cS h3 F (i+1) (by omega)
 rw[hd'] at cs
 obtain⟨s,hs⟩:=exI (Am O d (i+1))
 rw[hs] at sp a1 a2 a3 cs
 have hkm:k%s<s:=Nat.mod_lt _ sp
 have nd:=Hw hG isc X hin
 have la: ∀m,m<(fV O x i).length->(oS (fV O x i) ((fV O x i).getD m 0)=k/s↔m=(fV O x i).idxOf ((jQ (fV O x i)).getD (k/s) 0)):=λm hm=>QA nd a1 hm
 obtain⟨j0,q1,q2,q3,q4,q5,q6,_⟩:=rC hG isc X hin a2
 rw[q2] at la
 rw[q5] at a3 q6
 obtain⟨I,hI⟩:=exI (fV O x i)
 have lI:=yG O x i
 have iat: ∀m,m<(O.getD i []).length->I.getD m 0=x.getD ((O.getD i []).getD m 0) 0:=λm hm=>by rw[←hI];exact Zi hm
 rw[hI] at la lI a1
 obtain⟨skip,hsk⟩: ∃q,k/s=q:=⟨_,rfl⟩
 rw[hsk] at la a1
 have sz7:=Oh (O:=O) (m:=7) (by omega) d (i+1) λj h1 h2=>by have:=(gc.row (j:=j) (by omega)).2;omega
 have p7:7^d<=823543:=Nat.le_trans (Nat.pow_le_pow_right (by omega) (show d<=7 by omega)) (by decide)
 have sz8:=Oh (O:=O) (m:=7) (by omega) (d+1) i λj h1 h2=>by have:=(gc.row (j:=j) (by omega)).2;omega
 have p8:7^(d+1)<=823543:=Nat.le_trans (Nat.pow_le_pow_right (by omega) (show d+1<=7 by omega)) (by decide)
 have e3:(k:Int).tdiv (s:Int)=(skip:Int):=by rw[Int.tdiv_eq_ediv_of_nonneg (by omega),←hsk];rfl
 have e4:(k:Int).tmod (s:Int)=((k%s:Nat):Int):=by rw[Int.tmod_eq_emod_of_nonneg (by omega)];rfl
 have hsz:(s:Int)≠0:=by omega
 have eI:(i:Int)+1=((i+1:Nat):Int):=by omega
 obtain⟨_,ci,si⟩:=cO i hin
 obtain⟨_,cj,sj⟩:=cR i hin
 have cOi: ∀hh,Fr h1 hh->hh.cell idO (offO+i)=some (wsO.getD i V.undef):=λhh f=>by rw[(f1.trans f).cell (by assumption)];exact ci
 have cRi: ∀hh,Fr h1 hh->hh.cell idR (offR+i)=some (wsR.getD i V.undef):=λhh f=>by rw[(f1.trans f).cell (by assumption)];exact cj
 rw[kA zi (d:= []) (by rw[isc.lo];exact hin)] at si
 rw[kA (List.map zi) (d:= []) (by rw[isc.lr];exact hin)] at sj
 generalize wsO.getD i V.undef=vo at cOi si
 generalize wsR.getD i V.undef=vr at cRi sj
 obtain⟨lr,evr,_,_,idr,offr,wsr,shr,cr⟩:=xI sj
 rw[lW,isc.rl i hin] at shr cr
 have lo:=si.lens
 rw[aQ] at lo
 obtain⟨m,hm⟩:=exI ((O.getD i []).length)
 have hrow:=gc.row (j:=i) hin
 have olt: ∀j,j<m->(O.getD i []).getD j 0<n:=λj hj=>Br hG isc hin (bD (by omega))
 rw[hm] at lo lI iat shr cr hrow q1
 obtain⟨ido,offo,sho,co⟩:=Hk (hh:=h) (b:=m) si hm.symm
 obtain⟨idx,offx,shx,cx⟩:=Hk (hh:=h) (b:=n) su.si X.len.symm
 simp(disch:=omega)only[go_sem,c0 h3 F,d1,eI,cs,e3,hsz,e4]
 have at0: ∀q:Nat,((if j0<q then j0 else 0:Nat):Int)=(if j0<q then (j0:Int) else 0):=λq=>by split<;>rfl
 refine aG (λk' vars hh=> ∃(q:Nat),(∃g:Nat->V,vars= [g 0,.sl S 0 (n+1) (.kn (n+1)),aB (k%s:Nat),.ptr B 0,g 4,u,aB i,aB skip,aB (if j0<q then j0 else 0:Nat),aB q,g 10,g 11,g 12,g 13,g 14,g 15,g 16])/\q<=m/\Fr h3 hh/\k'=m-q) m
  ⟨0,aA rfl,iP _,Fr.refl h3,rfl⟩ ?_
 rintro k' vars h4 ⟨q,⟨g,rfl⟩,hq,F4,rfl⟩
 have G4:=F.trans F4
 by_cases hlq:(q:Int)<(m:Int)
 case neg=>
  have d2:decide ((q:Int)<(m:Int))=false:=decide_eq_false hlq;have hqm:q=m:=by omega
  obtain⟨k1,ck,sk⟩:=cr j0 q1;rw[kA zi (d:= []) (by rw[isc.rl i hin];omega)] at sk;have cRk: ∀hh,Fr h1 hh->hh.cell idr (offr+j0)=some (wsr.getD j0 V.undef):=λhh f=>by rw[(f1.trans f).cell k1];exact ck
  generalize wsr.getD j0 V.undef=vg at cRk sk;have Y:=hG.fA q4.mem;generalize (R.getD i []).getD j0 []=y at sk Y a3 q6;have e5:((if j0<q then j0 else 0:Nat):Int)=(j0:Int):=by rw[if_pos (by omega)]
  simp(disch:=omega)only[go_sem,c1 h4 G4,shO.ixa,cOi h4 G4,lo,d2,c2 h4 G4,shR.ixa,cRi h4 G4,e5,shr.ixa,cRk h4 G4];refine (wG vg u y x h4 (by rw[Y.len];omega) (sk.mono (f1.trans G4)) (su.si.mono F4) (λj hj=>by rw[X.len];exact Y.fU (by rw[Y.len] at hj;exact hj))).mono ?_;rintro v h5 ⟨s5,f5,hv5⟩;simp(disch:=omega)only[go_sem];rw[eI];refine⟨n-(i+1),by omega,i+1,k%s,v,bE y x,aA rfl,by omega,q6,⟨s5,BO λ_ _ _ _ e=>by have:=hv5 _ _ _ _ e;have:=G4.next;omega⟩,by rw[hd',hs];exact hkm,by rw[hd'];exact a3.symm,G4.trans f5,rfl⟩
 have d2:decide ((q:Int)<(m:Int))=true:=decide_eq_true hlq
 have hqm:q<m:=by omega
 obtain⟨b,hb⟩:=exI (I.getD q 0)
 have hb2:=iat q hqm
 rw[hb] at hb2
 simp(disch:=omega)only[go_sem,c1 h4 G4,shO.ixa,cOi h4 G4,lo,d2]
 refine aG (λk' vars hh=> ∃(t:Nat),(∃g:Nat->V,vars= [g 0,.sl S 0 (n+1) (.kn (n+1)),aB (k%s:Nat),.ptr B 0,g 4,u,aB i,aB skip,aB (if j0<q then j0 else 0:Nat),aB q,aB (oS (I.take t) b:Nat),aB t,g 12,g 13,g 14,g 15,g 16])/\t<=m/\Fr h4 hh/\k'=m-t) m
  ⟨0,aA rfl,iP _,Fr.refl h4,rfl⟩ ?_
 rintro k' vars h5 ⟨t,⟨g,rfl⟩,ht,F5,rfl⟩
 have G5:=G4.trans F5
 by_cases hlt2:(t:Int)<(m:Int)
 case neg=>
  have d3:=fF hlt2;rw[List.take_of_length_le (show I.length<=t by omega)];have hla:=la q (by omega);rw[hb] at hla
  by_cases hq0:oS I b=skip
  ·have d4:decide (((oS I b:Nat):Int)=(skip:Int))=true:=iK (by omega)
   have hqj:=hla.1 hq0;simp(disch:=omega)only[go_sem,c1 h5 G5,shO.ixa,cOi h5 G5,lo,d3,d4];rw[fJ q];refine⟨m-(q+1),by omega,q+1,?_,by omega,F4.trans F5,rfl⟩;rw[if_pos (by omega),←hqj];exact aA rfl
  ·have d4:decide (((oS I b:Nat):Int)=(skip:Int))=false:=fF (by omega)
   have hqj:q≠j0:=λe=>hq0 (hla.2 e)
   simp(disch:=omega)only[go_sem,c1 h5 G5,shO.ixa,cOi h5 G5,lo,d3,d4];rw[fJ q];refine⟨m-(q+1),by omega,q+1,?_,by omega,F4.trans F5,rfl⟩
   have e6:(if j0<q+1 then j0 else 0)=if j0<q then j0 else 0:=by
    by_cases h:j0<q
    ·rw[if_pos h,if_pos (by omega)]
    ·rw[if_neg h,if_neg (by omega)]
   rw[e6];exact aA rfl
 have d3:=iK hlt2
 have htm:t<m:=by omega
 have hot:=olt t (by omega)
 have hoq:=olt q (by omega)
 have ct:=co h5 (f1.trans G5) t htm
 have cq:=co h5 (f1.trans G5) q hqm
 have hc:=iat t htm
 have step:I.take (t+1)=I.take t++ [I.getD t 0]:=dL 0 (by omega)
 generalize (O.getD i []).getD t 0=ot at ct hot hc
 generalize (O.getD i []).getD q 0=oq at cq hoq hb2
 have cxt:=cx h5 (F4.trans F5) ot hot
 have cxq:=cx h5 (F4.trans F5) oq hoq
 rw[←hc] at cxt
 rw[←hb2] at cxq
 generalize I.getD t 0=c at cxt step
 have ls:=Wh (I.take t) c b
 have ll:oS (I.take t) b<=t:=Nat.le_trans (List.length_filter_le _ _) (by rw[Nn];omega)
 rw[←step] at ls
 by_cases hcb:(c:Int)<(b:Int)
 ·have d4:decide ((c:Int)<(b:Int))=true:=decide_eq_true hcb
  rw[if_pos (by omega)] at ls
  simp(disch:=omega)only[go_sem,c1 h5 G5,shO.ixa,cOi h5 G5,lo,d3,sho.ixa,ct,cq,shx.ixa,cxt,cxq,d4]
  rw[show (t:Int)+1=((t+1:Nat):Int) from by omega,show ((oS (I.take t) b:Nat):Int)+1=((oS (I.take t) b+1:Nat):Int) from by omega,←ls]
  exact⟨m-(t+1),by omega,t+1,aA rfl,by omega,F5.bF (by omega),rfl⟩
 ·have d4:decide ((c:Int)<(b:Int))=false:=decide_eq_false hcb
  rw[if_neg (by omega)] at ls
  simp(disch:=omega)only[go_sem,c1 h5 G5,shO.ixa,cOi h5 G5,lo,d3,sho.ixa,ct,cq,shx.ixa,cxt,cxq,d4]
  rw[show (t:Int)+1=((t+1:Nat):Int) from by omega,show ((oS (I.take t) b:Nat):Int)=((oS (I.take t) b+0:Nat):Int) from by omega,←ls]
  exact⟨m-(t+1),by omega,t+1,aA rfl,by omega,F5.bF (by omega),rfl⟩
section
variable {h:H} {v:V} {b:Nat} {W:Nat->Prop}
theorem XY {h0:H}{vl:V}{wl:List V}{ls:LN}{x:List Nat}(o:dG h vl 1 wl h0.next)(f:Fr h0 h)(hl:wl.length<1000000)(hb:b<=h0.next)(p:gG (λq=>q<b∨tQ vl q) h wl ls)(pv:PV (λq=>q<b∨tQ vl q) h v x):
  ∃h2,xT (h.new (.cells false [v])) 1 24 vl (.sl h.next 0 1 (.kn 1))=some (.sl (h.next+1) 0 (wl.length+1) (.un 1),h2)/\dG h2 (.sl (h.next+1) 0 (wl.length+1) (.un 1)) 1 (wl++ [v]) h0.next/\gG (λq=>q<b∨tQ (.sl (h.next+1) 0 (wl.length+1) (.un 1)) q) h2 (wl++ [v]) (ls++ [x])/\Fr h0 h2/\h2.next=h.next+2:=by
 obtain⟨h2,a2,ow,f2,n2,o2⟩:=zK (v:=v) o f hl (bytes:=24) (by omega)
 have x2:Fx (λq=>q<b∨tQ vl q) h h2:=⟨by omega,λq h1 h2=>o2 q h1 λid off m c e e2=>h2 (.inr ⟨off,m,c,e2▸e⟩)⟩
 have w2: ∀q,q<h.next->(q<b∨tQ (.sl (h.next+1) 0 (wl.length+1) (.un 1)) q)->(q<b∨tQ vl q):=λq h1 h2=>by
  rcases h2 with h2|⟨_,_,_,e⟩
  ·exact .inl h2
  ·cases e;omega
 exact⟨h2,a2,ow,(gG.go p x2 w2).append (gG.one (PV.go pv x2 w2)),f2,n2⟩
theorem PV.aaB {h':H}{vl:V}{wl:List V}{sz c:Nat}{x:List Nat}(o:dG h vl sz wl b)(hc:c<=h.next)(p:PV (λq=>q<h.next) h' v x):PV (λq=>q<c∨tQ vl q) h' v x:=
 p.sG λq _ e=>by
  rcases e with e|⟨_,_,_,e⟩
  ·omega
  ·exact (o.in _ _ _ _ e).1
theorem NS {ws:List V}{L:LN}(o:dG h v 1 ws b)(p:gG W h ws L): ∃id off,Sl v 1 L.length id off/\ ∀i,i<L.length->id<h.next/\h.cell id (off+i)=some (ws.getD i V.undef)/\PV W h (ws.getD i V.undef) (L.getD i []):=by
 have hl:=aZ.length p;obtain⟨id,off,sh,hid,hc⟩:=SV.shape o.sv L.length (by omega) (by omega);refine⟨id,off,sh,λi hi=>⟨hid (by omega),?_,gU p hi .undef []⟩⟩;rw[hc i (by omega),List.getD,fX (by omega)];rfl
theorem gG.fr {h':H}{vs:List V}{ls:LN}(p:gG W h vs ls)(f:Fr h h'):gG W h' vs ls:=p.mono λ_ _ x=>⟨x.si.mono f,x.off⟩
theorem GC.WY {vc:V}{n:Nat}{O:LN}{R:oJ}{G:List Nat->Prop}(g:GC W h vc n O R G):Ev T 109 [vc] h (λv h'=>v= aB 0/\Fr h h'):=by
 obtain⟨so,sr⟩:=g.small;have:=Mu vc (n:Int) (O.map zi) (R.map (List.map zi)) h g.ch (.inl (by have:=g.n7;omega)) so sr;rwa [g.chk] at this
theorem BY (vc:V)(d:Int)(O:List (List Int))(R:List (List (List Int)))(h:H)(hc:Ei h vc d O R)(hd:d<=7∨64<d)(so:kN O)(sr:kS R)(hb:jC d O R≠0):
  Ev T 80 [vc] h (λv h'=>v= .tup [.aC,aB (jC d O R)]/\Fr h h'):=by
 have hc0:=hc
 obtain⟨vO,vR,rfl,sO,sR⟩:=hc
 refine bP oX rfl rfl ?_
 have oneO:vO.one=true:=Gy sO
 have oneR:vR.one=true:=Gm sR
 obtain⟨B,hB⟩:=exI h.next
 obtain⟨h1,e1,n1,g1,o1,f1⟩:=fR hB [aB d,vO,vR]
 have bx:=bM h (v:= aB d) (u:=vO) (w:=vR) rfl oneO oneR
 simp(disch:=omega)only[go_sem,oX,aE,bx,hB,e1,aU g1]
 refine (Mu _ d O R h1 (hc0.mono f1) hd so sr).mono ?_
 rintro _ h4 ⟨rfl,f4⟩
 have d1:decide (jC d O R≠0)=true:=decide_eq_true hb
 simp(disch:=omega)only[go_sem,d1]
 exact f1.trans f4
theorem HI (vc:V)(n:Nat)(O:LN)(R:oJ)(G:List Nat->Prop)(h:H)(gc:GC W h vc n O R G)(L:LN)(hL:cK O R n 0 (cJ n)=L):
  Ev T 80 [vc] h (λv h'=> ∃vl wl,v= .tup [vl,aB 0]/\dG h' vl 1 wl h.next/\gG (λq=>q<h.next) h' wl L/\Fr h h'):=by
 have gc0:=gc
 obtain⟨vO,vR,e,sO,sR⟩:=gc.ch
 subst e
 refine bP oX rfl rfl ?_
 have isc:=gc.isc
 obtain⟨iel,ll⟩:=fE gc.mI isc
 have ll5:=kE gc
 rw[hL] at iel ll
 have oneO:vO.one=true:=Gy sO
 have oneR:vR.one=true:=Gm sR
 obtain⟨B,hB⟩:=exI h.next
 obtain⟨h1,e1,n1,g1,o1,f1⟩:=fR hB [aB n,vO,vR]
 have bx:=bM h (v:= aB n) (u:=vO) (w:=vR) rfl oneO oneR
 have rB: ∀hh,Fr h1 hh->hh.row B 0 3=some [aB n,vO,vR]:=λhh f=>aU (by rw[f.get B (by omega)];exact g1)
 simp(disch:=omega)only[go_sem,oX,aE,bx,hB,e1,rB h1 (Fr.refl _)]
 refine ((gc0.mono f1).WY).mono ?_
 rintro _ h2 ⟨rfl,f2⟩
 simp(disch:=omega)only[go_sem]
 refine aY (λhc=>(hc rfl).elim) (λ_=>?_)
 simp(disch:=omega)only[go_sem,rB h2 f2]
 refine (FV _ n O R G h2 (gc0.mono (f1.trans f2))).mono ?_
 rintro _ h3 ⟨S,rfl,hS1,hS2,gS,f3⟩
 have F3:=f2.trans f3
 have cS: ∀hh,Fr h3 hh->hh.cell S 0=some (aB (L.length:Int)):=λhh f=>by
  rw[f.cell hS2,iW gS (by omega),ll];rfl
 obtain⟨m,hm⟩:=exI L.length
 have d2:decide ((5040:Int)<(m:Int))=false:=fF (by omega)
 rw[hm] at cS
 have n0:=gc.n0
 simp(disch:=omega)only[go_sem,cS h3 (Fr.refl _),d2]
 refine aG (λk' vars hh=> ∃(i:Nat) (vl:V) (wl:List V),(∃g:Nat->V,vars= [g 0,.ptr B 0,g 2,g 3,g 4,.sl S 0 (n+1) (.kn (n+1)),g 6,vl,aB i,g 9,g 10,g 11])/\i<=m/\dG hh vl 1 wl h3.next/\gG (λq=>q<B∨tQ vl q) hh wl (L.take i)/\Fr h3 hh/\k'=m-i) m
  ⟨0,.aC, [],aA rfl,iP _,dG.aC _ _ _,trivial,Fr.refl _,rfl⟩ ?_
 rintro k' vars h4 ⟨i,vl,wl,⟨g,rfl⟩,hi,ow,al,F,rfl⟩
 have G4:=F3.trans F
 have nG4:=G4.next
 have nF3:=F3.next
 have hws:=al.length
 rw[Nn] at hws
 by_cases hlt:(i:Int)<(m:Int)
 case neg=>
  have d3:=fF hlt;simp(disch:=omega)only[go_sem,cS h4 F,d3];rw[List.take_of_length_le (by omega)] at al;exact⟨_,wl,rfl,ow.le (by omega),gG.sG al λq _ hq=> .inl (by omega),f1.trans G4⟩
 have d3:=iK hlt
 simp(disch:=omega)only[go_sem,cS h4 F,d3,rB h4 G4]
 refine (GK _ n O R G h4 (gc0.mono (f1.trans G4)) S i (by have:=F.next;omega) (by rw[F.get _ hS2];exact gS) (by omega)).mono ?_
 rintro v h5 ⟨s5,f5⟩
 rw[hL] at s5
 obtain⟨h6,a6,ow6,p6,f6,n6⟩:=XY (ow.fr f5) (F.trans f5) (by omega) (b:=B) (by omega) (gG.fr al f5) (PV.aaB ow (by omega) s5)
 simp(disch:=omega)only[go_sem,dB _ (z:= .aC) s5.eA.1 s5.eA.2,a6]
 rw[fJ i]
 refine⟨m-(i+1),by omega,i+1,_,_,aA rfl,by omega,ow6,?_,f6,rfl⟩
 rw[dL [] (by omega)]
 exact p6
end
section
variable {ks:List Cls.KE}
def Vn (a:Cls.KE):List V:= [a.rep,aB (a.ord:Int),aB (a.size:Int)]
theorem sW (a:Cls.KE)(r:List Cls.KE):eV (a::r)=Vn a++eV r:=rfl
theorem FH (a b:List Cls.KE):eV (a++b)=eV a++eV b:=by unfold eV;rw[List.flatMap_append]
theorem AH: ∀{ks:List Cls.KE} {pre:List V} {i:Nat} (a:Cls.KE),i<ks.length->putAt (pre++eV ks) (pre.length+i*3) (Vn a)=some (pre++eV (ks.set i a))
 | [],_,_,_,hi=>by simp at hi
 |b::r,pre,0,a,_=>by
  have e1:(Vn a).length=3:=rfl;have e2:(Vn b).length=3:=rfl;unfold putAt;rw[sW,List.set_cons_zero,sW,if_pos (by simp only[pW];omega),Nat.zero_mul,Nat.add_zero,List.take_left,e1,←e2,←pW,←List.append_assoc,List.drop_left,List.append_assoc]
 |b::r,pre,i+1,a,hi=>by
  have:=AH (ks:=r) (pre:=pre++Vn b) (i:=i) a (by simpa using hi);rw[pW,show (Vn b).length=3 from rfl] at this;rw[show pre.length+(i+1)*3=pre.length+3+i*3 by omega,List.set_cons_succ,sW,sW,←List.append_assoc,←List.append_assoc];exact this
theorem ON {i:Nat}(hi:i<ks.length)(h:H)(S:Nat)(a:Cls.KE):fG (some (.cells false (eV ks))) h S (0+i*3) [a.rep,aB (a.ord:Int),aB (a.size:Int)]=some (h.set S (some (.cells false (eV (ks.set i a))))):=by
 have:=AH (pre:= []) a hi;simp only[List.nil_append,List.length_nil] at this;show Option.map (λvs'=>h.set S (some (Ob.cells false vs'))) (putAt (eV ks) (0+i*3) (Vn a))=_;rw[this];rfl
def VL:Cls.KE:=⟨.aC,0,0,.aC,0,⟨rfl,rfl,rfl⟩,⟨rfl,rfl,rfl⟩⟩
theorem Sk (n:Nat):dV [.aC,aB 0,aB 0] (n*3)=eV (List.replicate n VL):=by
 induction n with
 |zero=>rfl
 |succ n ih=>
  rw[List.replicate_succ,sW,←ih];unfold dV;rw[show (n+1)*3=n*3+1+1+1 by omega,List.range_succ_eq_map,List.range_succ_eq_map,List.range_succ_eq_map];simp only[List.map_cons,List.map_map];refine congrArg (λl=>V.aC::aB 0::aB 0::l) (List.map_congr_left λi _=>?_);show [V.aC,aB 0,aB 0].getD ((i+3)%3) V.undef= [V.aC,aB 0,aB 0].getD (i%3) V.undef;rw[Nat.add_mod_right]
theorem aaV (h:H)(n:Nat)(hn:n<=100000):Cu h 3 40 [.aC,aB 0,aB 0] (aB n) (aB n)=some (.sl h.next 0 n (.kn n),h.new (.cells false (eV (List.replicate n VL)))):=by
 rw[qT (by omega) (Int.le_refl _) (by omega) (by omega),Int.toNat_natCast,Sk]
def Sn (M K:List Nat)(ks:List Cls.KE)(w t:Nat):List Cls.KE:=(List.range w).map λq=>if M.idxOf (K.getD q 0)<t then ks.getD (M.idxOf (K.getD q 0)) VL else VL
theorem IW (M K:List Nat)(ks:List Cls.KE)(w:Nat):Sn M K ks w 0=List.replicate w VL:=by
 unfold Sn;refine List.ext_getElem (by simp) λi h1 h2=>by simp
theorem Zj (M K:List Nat)(ks:List Cls.KE)(w t:Nat):(Sn M K ks w t).length=w:=by simp [Sn]
theorem RB {M K:List Nat}{w t:Nat}(pK:K.Perm M)(nd:M.Nodup)(hw:M.length=w)(ht:t<w):(Sn M K ks w t).set (K.idxOf (M.getD t 0)) (ks.getD t VL)=Sn M K ks w (t+1):=by
 have hK:=pK.length_eq;have ndK:=pK.nodup_iff.2 nd;have hm:M.getD t 0∈K:=pK.mem_iff.2 (bD (by omega));have hq:=List.idxOf_lt_length_iff.2 hm;have et:M.idxOf (M.getD t 0)=t:=by rw[Pm.bJ (show t<M.length by omega)];exact nd.idxOf_getElem _ _
 refine List.ext_getElem (by simp [Sn]) λq h1 h2=>?_
 have hqw:q<w:=by simpa [Sn] using h1
 rw[List.getElem_set];simp only[Sn,List.getElem_map,List.getElem_range]
 by_cases e:K.idxOf (M.getD t 0)=q
 ·rw[if_pos e]
  have e2:K.getD q 0=M.getD t 0:=by rw[←e,Pm.bJ hq,List.getElem_idxOf]
  rw[e2,et,if_pos (by omega)]
 ·rw[if_neg e]
  have e2:M.idxOf (K.getD q 0)≠t:=λh=>by
   have hm2:K.getD q 0∈M:=pK.mem_iff.1 (bD (by omega));have h3:=List.idxOf_lt_length_iff.2 hm2;have e3:M.getD t 0=K.getD q 0:=by rw[←h,Pm.bJ h3,List.getElem_idxOf]
   rw[e3,Pm.bJ (show q<K.length by omega)] at e;exact e (ndK.idxOf_getElem _ _)
  by_cases h:M.idxOf (K.getD q 0)<t
  ·rw[if_pos h,if_pos (by omega)]
  ·rw[if_neg h,if_neg (by omega)]
theorem KY {M K:List Nat}{w:Nat}(pK:K.Perm M)(hw:M.length=w){P:Cls.KE->Nat->Prop}(al:aZ P ks M):aZ P (Sn M K ks w w) K:=by
 have hK:=pK.length_eq;have lks:=aZ.length al;refine aZ.nM (by rw[Zj];omega) λq h1 h2=>?_
 have hm2:K.getD q 0∈M:=pK.mem_iff.1 (bD (by omega));have h3:=List.idxOf_lt_length_iff.2 hm2;simp only[Sn,List.getElem_map,List.getElem_range];rw[if_pos (by omega),List.getD,fX (by omega)];have:=aZ.get al (M.idxOf (K.getD q 0)) (by omega) h3;rw[List.getElem_idxOf] at this;have e:K.getD q 0=K[q]:=Pm.bJ h2;have:P ks[M.idxOf (K.getD q 0)] K[q]:=by rw[←e];exact this
 exact this
theorem Xp (a b:Cls.KE)(n:Nat)(x y:List Nat)(h:H)(hn:n<100000)(lx:x.length=n)(ly:y.length=n)(sa:SI h a.rep (zi x))(sb:SI h b.rep (zi y))(c:Bool)(hc:(a.ord<b.ord∨a.ord=b.ord/\(a.size<b.size∨a.size=b.size/\Lt x y))↔c=true):
  Ev T 83 [.agg [a.rep,aB (a.ord:Int),aB (a.size:Int)],.agg [b.rep,aB (b.ord:Int),aB (b.size:Int)]] h (λv h'=>v= .bool c/\Fr h h'):=by
 refine bP mB rfl rfl ?_
 obtain⟨B,hB⟩:=exI h.next
 obtain⟨h1,e1,n1,g1,o1,f1⟩:=fR hB [a.rep,aB (a.ord:Int),aB (a.size:Int)]
 obtain⟨h2,e2,n2,g2,o2,f2⟩:=fR n1 [b.rep,aB (b.ord:Int),aB (b.size:Int)]
 have bx:=bM h (v:=a.rep) (u:= aB (a.ord:Int)) (w:= aB (a.size:Int)) a.hrep.2.1 rfl rfl
 have by':=bM h1 (v:=b.rep) (u:= aB (b.ord:Int)) (w:= aB (b.size:Int)) b.hrep.2.1 rfl rfl
 have g12:h2.get B=some (.cells false [a.rep,aB (a.ord:Int),aB (a.size:Int)]):=by rw[f2.get _ (by omega)];exact g1
 have F:=f1.trans f2
 have go:=H.aF g12
 have go2:=H.aF g2
 by_cases c1:a.ord=b.ord
 case neg=>
  have d1:decide ((a.ord:Int)≠(b.ord:Int))=true:=iK (by omega);simp(disch:=omega)only[go_sem,mB,aE,bx,hB,e1,by',n1,e2,go,go2,d1];refine⟨?_,F⟩;congr 1;rw[Bool.eq_iff_iff,decide_eq_true_iff,←hc];exact⟨λh=> .inl (by omega),by rintro (h|⟨h,_⟩);omega;exact absurd h c1⟩
 have d1:decide ((a.ord:Int)≠(b.ord:Int))=false:=fF (by omega)
 by_cases c2:a.size=b.size
 case neg=>
  have d2:decide ((a.size:Int)≠(b.size:Int))=true:=iK (by omega);simp(disch:=omega)only[go_sem,mB,aE,bx,hB,e1,by',n1,e2,go,go2,d1,d2];refine⟨?_,F⟩;congr 1;rw[Bool.eq_iff_iff,decide_eq_true_iff,←hc];exact⟨λh=> .inr ⟨c1,.inl (by omega)⟩,by rintro (h|⟨_,h|⟨h,_⟩⟩);omega;omega;exact absurd h c2⟩
 have d2:decide ((a.size:Int)≠(b.size:Int))=false:=fF (by omega)
 simp(disch:=omega)only[go_sem,mB,aE,bx,hB,e1,by',n1,e2,go,go2,d1,d2]
 refine (Zd a.rep b.rep n x y h2 hn lx ly (sa.mono F) (sb.mono F)).mono ?_
 rintro _ h3 ⟨rfl,f3⟩
 simp(disch:=omega)only[go_sem]
 refine⟨?_,F.trans f3⟩
 congr 1
 rw[Bool.eq_iff_iff,mW (by omega),←hc]
 exact⟨λh=> .inr ⟨c1,.inr ⟨c2,h⟩⟩,by rintro (h|⟨_,h|⟨_,h⟩⟩);omega;omega;exact h⟩
end
section
variable {i j:Nat} {Q:List Nat}
theorem BM {α:Type}{R:α->α->Prop}(irr: ∀a b,R a b-> ¬R b a)(p:α->Bool){y:α}(hp: ∀a,p a=true↔R a y): ∀{S:List α},S.Pairwise R-> ∀q,S[q]? =some y->(S.filter p).length=q
 | [],_,q,h=>by simp at h
 |x::S,hs,0,h=>by
  obtain⟨h1,_⟩:=List.pairwise_cons.1 hs;have e:x=y:=by simpa using h
  rw[List.length_eq_zero_iff,List.filter_eq_nil_iff];intro b hb hb2;have hb3:=(hp b).1 hb2;rcases List.mem_cons.1 hb with e2|hb
  ·subst e2 e;exact irr _ _ hb3 hb3
  ·subst e;exact irr _ _ hb3 (h1 b hb)
 |x::S,hs,q+1,h=>by
  obtain⟨h1,h2⟩:=List.pairwise_cons.1 hs;have h':S[q]? =some y:=by simpa using h
  have ih:=BM irr p hp h2 q h';have hx:p x=true:=(hp x).2 (h1 _ (List.mem_of_getElem? h'));rw[List.filter_cons,if_pos hx,List.length_cons,ih]
section
variable {n:Nat} {G:List Nat->Prop} {L:LN} {K:List Nat}
theorem Gl (k:Nat):(cE G L k).Nodup:=by
 unfold cE;exact List.Pairwise.filter _ List.nodup_range
theorem YA (n:Nat)(G:List Nat->Prop)(L:LN): ∃K,Ck n G L K:=by
 classical
 refine⟨(cE G L L.length).mergeSort λr s=>decide (¬Qb n G L s r),List.mergeSort_perm _ _,?_⟩
 have h1:=List.pairwise_mergeSort (le:=λr s=>decide (¬Qb n G L s r)) (λa b c h1 h2=>by
  simp only[decide_eq_true_eq] at h1 h2 ⊢
  unfold Qb at*;omega) (λa b=>by
  simp only[Bool.or_eq_true,decide_eq_true_eq]
  unfold Qb;omega) (cE G L L.length)
 have h2:((cE G L L.length).mergeSort λr s=>decide (¬Qb n G L s r)).Nodup:=(List.mergeSort_perm _ _).nodup_iff.2 (Gl _);rw[List.nodup_iff_pairwise_ne] at h2;refine (h1.and h2).imp λ⟨h3,h4⟩=>?_
 simp only[decide_eq_true_eq] at h3;unfold Qb at*;omega
theorem Oa {i:Nat}: ∀k,∃r,cE G L (i+k)=cE G L i++r
 |0=>⟨[],by simp⟩
 |k+1=>by
  obtain⟨r,h⟩:=Oa (i:=i) k
  by_cases hr:Lf G L (i+k)
  ·exact⟨r++ [i+k],by rw[←Nat.add_assoc,(oC _).1 hr,h,List.append_assoc]⟩
  ·exact⟨r,by rw[←Nat.add_assoc,(oC _).2 hr,h]⟩
theorem PR (hi:i<L.length)(hr:Lf G L i):(cE G L i).length<(cE G L L.length).length/\(cE G L L.length).getD (cE G L i).length 0=i:=by
 obtain⟨r,h⟩:=Oa (G:=G) (L:=L) (i:=i+1) (L.length-(i+1));rw[show i+1+(L.length-(i+1))=L.length by omega,(oC i).1 hr] at h;rw[h];simp [List.getD]
open Classical in
noncomputable def Fv (G:List Nat->Prop)(L:LN)(i j:Nat):Nat:=if ∃i0,i0<i/\cR G L i0 j then oU G L (cE G L L.length) j+1 else 0
open Classical in
noncomputable def Lq (G:List Nat->Prop)(L:LN)(i:Nat)(Q:List Nat)(j:Nat):Nat:=if j∈Q then (cE G L i).length+1 else Fv G L i j
theorem PM (j:Nat):Fv G L 0 j=0:=by
 unfold Fv;rw[if_neg];rintro⟨i0,h,_⟩;omega
theorem QE (i j:Nat):Lq G L i [] j=Fv G L i j:=by
 unfold Lq;rw[if_neg (by simp)]
theorem Tz {k:Nat}:Lq G L i (Q++ [k]) j=if j=k then (cE G L i).length+1 else Lq G L i Q j:=by
 unfold Lq
 by_cases e:j=k
 ·subst e;rw[if_pos (by simp),if_pos rfl]
 ·rw[if_neg e]
  by_cases h:j∈Q
  ·rw[if_pos (by simp [h]),if_pos h]
  ·rw[if_neg (by simp [h,e]),if_neg h]
theorem AY:Fv G L i j=0↔ ¬ ∃i0,i0<i/\cR G L i0 j:=by
 unfold Fv
 by_cases h: ∃i0,i0<i/\cR G L i0 j
 ·rw[if_pos h];exact⟨λh2=>by omega,λh2=>absurd h h2⟩
 ·rw[if_neg h];exact⟨λ_=>h,λ_=>rfl⟩
theorem Sv:Fv G L i i=0↔Lf G L i:=by
 rw[AY];exact⟨λh j hj hc=>h ⟨j,hj,hc⟩,λh ⟨j,hj,hc⟩=>h j hj hc⟩
variable (hG:tP n G) (E:iR G L)
include hG E
theorem MT (hi:i<L.length)(hr: ¬Lf G L i)(j:Nat):Fv G L (i+1) j=Fv G L i j:=by
 have e:(∃i0,i0<i+1/\cR G L i0 j)↔ ∃i0,i0<i/\cR G L i0 j:=by
  refine⟨λ⟨i0,h1,h2⟩=>?_,λ⟨i0,h1,h2⟩=>⟨i0,by omega,h2⟩⟩
  by_cases e:i0=i
  ·subst e
   obtain⟨k,hk,hc⟩: ∃k,k<i0/\cR G L k i0:=La λhn=>hr λk hk hc=>hn ⟨k,hk,hc⟩
   exact⟨k,hk,oT hG E (by omega) hc h2⟩
  ·exact⟨i0,by omega,h2⟩
 unfold Fv
 by_cases h: ∃i0,i0<i/\cR G L i0 j
 ·rw[if_pos (e.2 h),if_pos h]
 ·rw[if_neg (λx=>h (e.1 x)),if_neg h]
theorem IV (hi:i<L.length)(hr:Lf G L i)(hj:j<L.length)(hc:cR G L i j):oU G L (cE G L L.length) j=(cE G L i).length:=by
 obtain⟨h1,h2⟩:=PR hi hr;exact vW hG E (List.Perm.refl _) h1 (kX.2 ⟨hj,by rw[h2];exact hc⟩)
theorem UA (hi:i<L.length)(hr:Lf G L i)(hj:j<L.length)(hc:cR G L i j):Lq G L i Q j=0↔j∉Q:=by
 unfold Lq
 by_cases h:j∈Q
 ·rw[if_pos h];exact⟨λh2=>by omega,λh2=>absurd h h2⟩
 ·rw[if_neg h,AY]
  exact⟨λ_=>h,λ_ ⟨i0,h1,h2⟩=>hr i0 h1 (oT hG E (by omega) h2 (Db hG E hi hc))⟩
theorem ME (hi:i<L.length)(hr:Lf G L i)(hQ: ∀j,j∈Q↔j<L.length/\cR G L i j)(hj:j<L.length):Lq G L i Q j=Fv G L (i+1) j:=by
 unfold Lq
 by_cases h:j∈Q
 ·have hc:=((hQ j).1 h).2
  rw[if_pos h];unfold Fv;rw[if_pos ⟨i,by omega,hc⟩,IV hG E hi hr hj hc]
 ·rw[if_neg h]
  have hn: ¬cR G L i j:=λhc=>h ((hQ j).2 ⟨hj,hc⟩)
  have e:(∃i0,i0<i+1/\cR G L i0 j)↔ ∃i0,i0<i/\cR G L i0 j:=by
   refine⟨λ⟨i0,h1,h2⟩=>?_,λ⟨i0,h1,h2⟩=>⟨i0,by omega,h2⟩⟩
   by_cases e:i0=i
   ·subst e;exact absurd h2 hn
   ·exact⟨i0,by omega,h2⟩
  unfold Fv
  by_cases h: ∃i0,i0<i/\cR G L i0 j
  ·rw[if_pos (e.2 h),if_pos h]
  ·rw[if_neg (λx=>h (e.1 x)),if_neg h]
theorem OW (hj:j<L.length):Fv G L L.length j=oU G L (cE G L L.length) j+1:=by
 unfold Fv;rw[if_pos ⟨j,hj,De hG E hj⟩]
omit hG in
theorem TD {r s:Nat}(hr:r<L.length)(hs:s<L.length):Lt (L.getD r []) (L.getD s [])↔r<s:=by
 have asc:=List.pairwise_iff_getElem.1 E.asc
 have up: ∀{a b:Nat},a<L.length->b<L.length->a<b->Lt (L.getD a []) (L.getD b []):=λ{a b} ha hb h=>by
  have:=asc a b ha hb h;rwa [List.getD,fX ha,List.getD,fX hb]
 refine⟨λh=>?_,up hr hs⟩;rcases Nat.lt_trichotomy r s with h1|h1|h1
 ·exact h1
 ·subst h1;exact (Lt.irrefl h).elim
 ·exact ((up hs hr h1).asymm h).elim
omit hG E in
theorem HV (ik:Ck n G L K)(p:Nat->Bool){t:Nat}(ht:t<(cE G L L.length).length)(hp: ∀u,u<(cE G L L.length).length->(p u=true↔Qb n G L ((cE G L L.length).getD u 0) ((cE G L L.length).getD t 0))):
  ((List.range (cE G L L.length).length).filter p).length=K.idxOf ((cE G L L.length).getD t 0):=by
 classical
 have hm:(cE G L L.length).getD t 0∈K:=ik.perm.mem_iff.2 (bD ht)
 have hq:=List.idxOf_lt_length_iff.2 hm
 have c1:=BM (R:=Qb n G L) (λa b h1 h2=>Mk h1 h2) (λr=>decide (Qb n G L r ((cE G L L.length).getD t 0))) (y:=(cE G L L.length).getD t 0) (λa=>by simp) ik.asc (K.idxOf ((cE G L L.length).getD t 0)) (by rw[fX hq,List.getElem_idxOf])
 rw[←c1,(ik.perm.filter _).length_eq]
 generalize cE G L L.length=M at hp
 generalize M.getD t 0=y at hp
 have:(List.range M.length).filter p=(List.range M.length).filter λu=>decide (Qb n G L (M.getD u 0) y):=List.filter_congr λu hu=>by
  have:=hp u (Ot.1 hu);rw[Bool.eq_iff_iff,this,decide_eq_true_iff]
 rw[this]
 have e:M=(List.range M.length).map λu=>M.getD u 0:=List.ext_getElem (by simp) λi h1 h2=>by simp [List.getD,h1]
 conv=>rhs;rw[e]
 rw[List.filter_map,lW]
 rfl
theorem HX (ik:Ck n G L K)(hj:j<L.length):oU G L (cE G L L.length) j<(cE G L L.length).length/\oU G L K j=K.idxOf ((cE G L L.length).getD (oU G L (cE G L L.length) j) 0):=by
 obtain⟨k,hk,hc⟩:=zT hG E (List.Perm.refl _) hj;have e1:=vW hG E (List.Perm.refl _) hk hc;rw[e1];have hm:(cE G L L.length).getD k 0∈K:=ik.perm.mem_iff.2 (bD hk);have hq:=List.idxOf_lt_length_iff.2 hm;refine⟨hk,vW hG E ik.perm hq ?_⟩;rw[bJ hq,List.getElem_idxOf];exact hc
end
end
section
variable {a b c d e f:V}
theorem QB {v:V}(ha:a.one=true)(hb:b.one=true)(hc:c.one=true)(hv:v.cells= [v])(hv1:v.one=true):vN [aB 0,.aC,.aC,.aC,.aC,.aC] [(0,3,.agg [a,b,c]),(3,1,v)]=some (.agg [a,b,c,v,.aC,.aC]):=by
 simp [vN,jY,putAt,ha,hb,hc,hv,hv1,show (V.agg [a,b,c]).cells= [a,b,c] from rfl]
theorem rZ (h:H)(id:Nat)(ha:a.one=true)(hb:b.one=true)(hc:c.one=true)(hd:d.one=true)(he:e.one=true)(hf:f.one=true):Yu h 6 (.ptr id 0) (.agg [a,b,c,d,e,f])=fG (h.get id) h id 0 [a,b,c,d,e,f]:=Ho h id 0 6 _ rfl (by simp [ha,hb,hc,hd,he,hf])
theorem oY {x1 x2 x3 x4 x5 x6:V}(h:H)(id:Nat):fG (some (.cells false [x1,x2,x3,x4,x5,x6])) h id 0 [a,b,c,d,e,f]=some (h.set id (some (.cells false [a,b,c,d,e,f]))):=by
 simp [fG,putAt]
theorem Da {h:H}{id:Nat}{ro:Bool}(hg:h.get id=some (.cells ro [a,b,c,d,e,f])):h.row id 0 6=some [a,b,c,d,e,f]:=by
 simp [H.row,hg,sub]
theorem Fy (vc:V)(d:Int)(O:List (List Int))(R:List (List (List Int)))(h:H)(hc:Ei h vc d O R)(hd:d<=7∨64<d)(so:kN O)(sr:kS R)(hb:jC d O R≠0):
  Ev T 48 [vc] h (λv h'=>v= .tup [.agg [aB 0,.aC,.aC,.aC,.aC,.aC],aB (jC d O R)]/\Fr h h'):=by
 have hc0:=hc
 obtain⟨vO,vR,rfl,sO,sR⟩:=hc
 refine bP pI rfl rfl ?_
 have oneO:vO.one=true:=Gy sO
 have oneR:vR.one=true:=Gm sR
 obtain⟨B,hB⟩:=exI h.next
 obtain⟨h1,e1,n1,g1,o1,f1⟩:=fR hB [aB d,vO,vR]
 obtain⟨h2,e2,n2,g2,o2,f2⟩:=fR n1 [aB 0,.aC,.aC,.aC,.aC,.aC]
 have bx:=bM h (v:= aB d) (u:=vO) (w:=vR) rfl oneO oneR
 have rB:h2.row B 0 3=some [aB d,vO,vR]:=aU (by rw[f2.get B (by omega)];exact g1)
 simp(disch:=omega)only[go_sem,pI,aE,bx,hB,e1,n1,e2,rB]
 refine (BY _ d O R h2 (hc0.mono (f1.trans f2)) hd so sr hb).mono ?_
 rintro _ h4 ⟨rfl,f4⟩
 have d1:decide (jC d O R≠0)=true:=decide_eq_true hb
 have g4:h4.get (B+1)=some (.cells false [aB 0,.aC,.aC,.aC,.aC,.aC]):=by rw[f4.get _ (by omega)];exact g2
 have b0:vN [aB 0,.aC,.aC,.aC,.aC,.aC] []=some (.agg [aB 0,.aC,.aC,.aC,.aC,.aC]):=rfl
 simp(disch:=omega)only[go_sem,d1,b0,rZ h4 (B+1) (a:= aB 0) (b:= .aC) (c:= .aC) (d:= .aC) (e:= .aC) (f:= .aC) rfl rfl rfl rfl rfl rfl,g4,oY,Da (H.aT ..)]
 exact ((f1.trans f2).trans f4).set (by omega) _
theorem Xv (hh:H)(id:Nat)(y:V):fG (some (.cells false [a,b,c])) hh id 2 [y]=some (hh.set id (some (.cells false [a,b,y]))):=by
 simp [fG,putAt]
structure AU (n:Nat)(G:List Nat->Prop)(L:LN)(W:Nat->Prop)(h:H)(a:Cls.KE)(r:Nat):Prop where
 ord:a.ord=fM (L.getD r []) n
 size:a.size=(kF G L r).length
 rep:PV W h a.rep (L.getD r [])
structure ZH (n:Nat)(G:List Nat->Prop)(L:LN)(K:List Nat)(b:Nat)(vO vR:V)(hh:H)(v:V):Prop where
 ex: ∃vL S ks vM,v= .agg [aB n,vO,vR,vL,.sl S 0 K.length (.kn K.length),vM]/\b<=S/\S<hh.next/\hh.get S=some (.cells false (eV ks))/\aZ (AU n G L (λq=>q<b∨S<=q) hh) ks K/\SP hh vL L/\SI hh vM (zi (sV G L K))
theorem Yg {h:H}{id o:Nat}(ha:h.cell id o=some a)(hb:h.cell id (o+1)=some b)(hc:h.cell id (o+2)=some c):h.row id o 3=some [a,b,c]:=by
 unfold H.cell at ha hb hc;unfold H.row;split at ha
 ·rename_i ro vs e
  rw[e] at hb hc;have hb:vs[o+1]? =some b:=hb;have hc:vs[o+2]? =some c:=hc;obtain⟨la,ea⟩:=List.getElem?_eq_some_iff.1 ha;obtain⟨lb,eb⟩:=List.getElem?_eq_some_iff.1 hb;obtain⟨lc,ec⟩:=List.getElem?_eq_some_iff.1 hc;rw[e];simp only[sub];rw[if_pos (by omega),List.drop_eq_getElem_cons la,List.drop_eq_getElem_cons lb,List.drop_eq_getElem_cons lc,ea,eb,ec]
  rfl
 ·cases ha
theorem Hu {W:Nat->Prop}(vc:V)(n:Nat)(O:LN)(R:oJ)(G:List Nat->Prop)(h:H)(gc:GC W h vc n O R G)(L:LN)(hL:cK O R n 0 (cJ n)=L):
  Ev T 48 [vc] h (λv h'=> ∃vO vR K vg,vc= .agg [aB n,vO,vR]/\v= .tup [vg,aB 0]/\Ck n G L K/\ZH n G L K h.next vO vR h' vg/\Fr h h'):=by
 have gc0:=gc
 obtain⟨vO,vR,rfl,sO,sR⟩:=gc.ch
 refine bP pI rfl rfl ?_
 have hG:=gc.mI
 have n7:=gc.n7
 have n0:=gc.n0
 obtain⟨E,ll⟩:=fE gc.mI gc.isc
 have ll5:=kE gc
 rw[hL] at E ll
 have one3:vO.one=true/\vR.one=true:=⟨Gy sO,Gm sR⟩
 obtain⟨B,hB⟩:=exI h.next
 obtain⟨h1,e1,n1,g1,o1,f1⟩:=fR hB [aB n,vO,vR]
 obtain⟨h2,e2,n2,g2,o2,f2⟩:=fR n1 [aB 0,.aC,.aC,.aC,.aC,.aC]
 have bx:=bM h (v:= aB n) (u:=vO) (w:=vR) rfl one3.1 one3.2
 have rB: ∀hh,Fr h2 hh->hh.row B 0 3=some [aB n,vO,vR]:=λhh f=>aU (by rw[f.get B (by omega),f2.get B (by omega)];exact g1)
 have F2:=f1.trans f2
 simp(disch:=omega)only[go_sem,pI,aE,bx,hB,e1,n1,e2,rB h2 (Fr.refl _)]
 refine (HI _ n O R G h2 (gc0.mono F2) L hL).mono ?_
 rintro _ h3 ⟨vL,wsL,rfl,owL,pvL,f3⟩
 have sL:SP h3 vL L:=gG.sp' owL.sv pvL
 obtain⟨m,hm⟩:=exI L.length
 have lvL:=sL.lens
 have wL:=SV.dS (show SV h3 vL 1 _ from sL.choose_spec.1)
 rw[lW,hm] at lvL
 obtain⟨P,hP⟩:=exI h3.next
 obtain⟨h4,e4,n4,g4,o4,f4⟩:=fR hP [aB 0,.aC,.aC,.aC,.aC,.aC]
 obtain⟨h5,e5,n5,g5,o5⟩:=xX h4 P [aB n,vO,vR,vL,.aC,.aC]
 have f45:Fr h3 h5:=⟨by omega,λq hq=>by rw[o5 q (by omega),o4 q (by omega)]⟩
 simp(disch:=omega)only[go_sem,rB h3 f3]
 refine aY (λhc=>(hc rfl).elim) (λ_=>?_)
 simp(disch:=omega)only[go_sem,rB h3 f3,QB (a:= aB n) rfl one3.1 one3.2 wL.1 wL.2.1,hP,e4,rZ h4 P (a:= aB n) (b:=vO) (c:=vR) (d:=vL) (e:= .aC) (f:= .aC) rfl one3.1 one3.2 wL.2.1 rfl rfl,g4,oY,e5,rB h5 (f3.trans f45)]
 have F5:=(F2.trans f3).trans f45
 refine (Xf _ n O R G h5 (gc0.mono F5)).mono ?_
 rintro vS h6 ⟨sS,f6⟩
 obtain⟨D,hD⟩:=exI h6.next
 obtain⟨h7,e7,n7',g7,o7,f7⟩:=fR hD (rc m λ_=> aB 0)
 simp(disch:=omega)only[go_sem,lvL,lD _ m (by omega),hD,e7]
 obtain⟨idL,offL,shL,cL⟩:=NS owL pvL
 obtain⟨lvS,evS,idS,offS,wsS,shS,cS⟩:=Zf sS
 rw[hm] at shL cL
 obtain⟨S,hS⟩:=exI R.flatten
 have hSG: ∀s∈S,G s:=by rw[←hS];exact zZ gc0.isc
 have hSgen: ∀x,G x->gO n (λg=>g∈S) x:=λx hx=>by
  have:=(Es hG gc0.isc x).2 hx;rw[←hS];exact this
 have sl7:R.flatten.length<=49:=by
  have h1:=nX (m:=7) (R:=R.map (List.map zi)) (i:=n) (by rw[lW,gc0.isc.lr];exact gV _) (λj hj=>by
   rw[kA (List.map zi) (d:= []) (by rw[gc0.isc.lr];exact hj),lW,gc0.isc.rl j hj]
   have:=(gc0.row hj).2;omega)
  rw[List.take_of_length_le (by rw[lW,gc0.isc.lr];exact gV _)] at h1;have e:(R.map (List.map zi)).flatten.length=R.flatten.length:=by simp [List.length_flatten,List.map_map,Function.comp_def]
  rw[e] at h1;have h2:n*7<=7*7:=Nat.mul_le_mul_right 7 n7;omega
 rw[hS] at lvS shS cS sl7
 obtain⟨sl,hsl⟩:=exI S.length
 rw[hsl] at lvS shS cS sl7
 have nP5:=f6.next
 have nP3:=f45.next
 have F6:=F5.trans f6
 have nF2:=F2.next
 have nf3:=f3.next
 have fD: ∀hh,Fx (· =D) h7 hh->Fr h6 hh:=λhh f=>⟨by have:=f.next;omega,λq hq=>by rw[f.get q (by omega) (λe=>by have:q=D:=e;omega)];exact o7 q (by omega)⟩
 have fD3: ∀hh,Fx (· =D) h7 hh->Fr h3 hh:=λhh f=>(f45.trans f6).trans (fD hh f)
 have cLi: ∀i,i<m-> ∀hh,Fr h3 hh->hh.cell idL (offL+i)=some (wsL.getD i V.undef):=λi hi hh f=>by rw[f.cell (cL i hi).1];exact (cL i hi).2.1
 have cSi: ∀i,i<sl-> ∀hh,Fr h6 hh->hh.cell idS (offS+i)=some (wsS.getD i V.undef):=λi hi hh f=>by rw[f.cell (cS i hi).1];exact (cS i hi).2.1
 have LP: ∀g∈L,bY n g:=λg hg=>hG.fA ((E.mem g).1 hg)
 clear e1 e2 o2 e4 g4 o4 e5 o5 bx
 refine bT (λvs hh=> ∃(vK:V) (ks:List Cls.KE),(∃g:Nat->V,vs= [g 0,.ptr B 0,.ptr (B+1) 0,g 3,vL,g 5,.ptr P 0,g 7,.sl D 0 m (.kn m),vK,g 10,g 11,g 12,g 13,g 14,g 15,g 16,g 17,g 18,g 19,g 20,g 21,g 22,g 23,g 24,g 25,g 26,g 27,g 28,g 29,g 30,g 31,g 32,g 33])/\dG hh vK 3 (eV ks) (D+1)/\aZ (AU n G L (λq=>q<h2.next) h3) ks (cE G L m)/\hh.get D=some (.cells false (rc m λj=> aB (Fv G L m j:Nat)))/\D<hh.next/\Fx (· =D) h7 hh) ?_ ?_
 ·refine aG (λk' vs hh=> ∃(i:Nat) (vK:V) (ks:List Cls.KE),(∃g:Nat->V,vs= [g 0,.ptr B 0,.ptr (B+1) 0,g 3,vL,g 5,.ptr P 0,vS,.sl D 0 m (.kn m),vK,aB i,g 11,g 12,g 13,g 14,g 15,g 16,g 17,g 18,g 19,g 20,g 21,g 22,g 23,g 24,g 25,g 26,g 27,g 28,g 29,g 30,g 31,g 32,g 33])/\i<=m/\dG hh vK 3 (eV ks) (D+1)/\aZ (AU n G L (λq=>q<h2.next) h3) ks (cE G L i)/\hh.get D=some (.cells false (rc m λj=> aB (Fv G L i j:Nat)))/\D<hh.next/\Fx (· =D) h7 hh/\k'=m-i) m
   ⟨0,.aC, [],aA rfl,iP _,dG.aC _ _ _,trivial,by rw[g7,show (λj=>aB (Fv G L 0 j:Nat))=λ_=>aB 0 from funext λj=>by rw[PM];rfl],by omega,Fx.refl _ _,rfl⟩ ?_
  rintro k' vars ha ⟨i,vK,ks,⟨g,rfl⟩,hi,ow,al,gD,nD,Fa,rfl⟩
  by_cases hlt:(i:Int)<(m:Int)
  case neg=>
   have d1:=fF hlt;obtain rfl:i=m:=by omega
   simp(disch:=omega)only[go_sem,lvL,d1];exact⟨vK,ks,aA rfl,ow,al,gD,nD,Fa⟩
  have d1:=iK hlt
  have him:i<m:=by omega
  have hiL:i<L.length:=by omega
  have cD:=iW gD him
  by_cases hr:Lf G L i
  case neg=>
   have d2:decide (((Fv G L i i:Nat):Int)≠0)=true:=decide_eq_true λh=>hr (Sv.1 (by omega))
   simp(disch:=omega)only[go_sem,lvL,d1,cD,d2];rw[fJ i];exact⟨m-(i+1),by omega,i+1,vK,ks,aA rfl,by omega,ow,by rw[(oC i).2 hr];exact al,by rw[gD,show (λj=>aB (Fv G L (i+1) j:Nat))=λj=>aB (Fv G L i j:Nat) from funext λj=>by rw[MT hG E hiL hr j]],nD,Fa,rfl⟩
  have d2:decide (((Fv G L i i:Nat):Int)≠0)=false:=decide_eq_false λh=>h (by rw[Sv.2 hr];rfl)
  obtain⟨_,_,pi⟩:=cL i him
  have cxi:=cLi i him
  generalize wsL.getD i V.undef=vx at cxi pi
  have si:=pi.si
  have X:=kL hG E hiL
  have f3a:=fD3 ha Fa
  simp(disch:=omega)only[go_sem,lvL,d1,cD,d2,shL.ixa,cxi ha f3a]
  refine (BV vx n (L.getD i []) ha n0 n7 X (si.mono f3a)).mono ?_
  rintro _ hb ⟨rfl,fb⟩
  obtain⟨o,ho⟩:=exI (fM (L.getD i []) n)
  rw[ho]
  have f3b:=f3a.trans fb
  have ovx:=SV.dS si
  obtain⟨C,hC⟩:=exI hb.next
  obtain⟨hc,ec,nc,gc',oc,fc⟩:=fR hC [.aC,aB 0,aB 0]
  obtain⟨hd,ed,nd,gd,od⟩:=xX hc C [vx,aB o,aB 0]
  have nd1:hd.next=C+1:=by omega
  obtain⟨he,ee,ne,ge,oe,fe⟩:=fR nd1 [aB i]
  have nb:=fb.next
  have gDe:he.get D=some (.cells false (rc m λj=> aB (Fv G L i j:Nat))):=by rw[oe _ (by omega),od _ (by omega),oc _ (by omega),fb.get _ (by omega)];exact gD
  obtain⟨hf,ef,nf,gf,of⟩:=xX he D ((rc m λj=> aB (Fv G L i j:Nat)).set i (aB ((cE G L i).length+1:Nat)))
  have lks:=aZ.length al
  have lrp:(cE G L i).length<=i:=by
   unfold cE;refine Nat.le_trans (List.length_filter_le _ _) (by rw[List.length_range];exact gV _)
  have lvK:dC vK=some (aB ((cE G L i).length:Int)):=by unfold dC;rw[SV.len ow.sv (n:=ks.length) (gX ks) (by omega),lks];rfl
  have bl3:vN [.aC,aB 0,aB 0] [(0,1,vx),(1,1,aB o)]=some (.agg [vx,aB o,aB 0]):=by
   simp [vN,jY,putAt,ovx.1,ovx.2.1,show (aB o).cells= [aB o] from rfl,show (aB o).one=true from rfl]
  have pt:=bW (vs:=rc m λj=> aB (Fv G L i j:Nat)) (off:=i) (by rw[eU];omega)
  have cxb:=cxi hb f3b
  simp(disch:=omega)only[go_sem,lvL,shL.ixa,cxb,bl3,hC,ec,gI hc C 0 (v:=vx) (u:= aB o) (w:= aB 0) ovx.2.1 rfl rfl,gc',gZ,ed,dB hd (z:= aB 0) (v:= aB i) rfl rfl,nd1,ee,lvK,gDe,pt,show ((cE G L i).length:Int)+1=(((cE G L i).length+1:Nat):Int) from rfl,ef]
  obtain⟨pl,hpl⟩:=exI ((cE G L i).length)
  have Fbf:Fx (· =D) hb hf:=⟨by omega,λq h1 h2=>by rw[of q h2,oe q (by omega),od q (by omega),oc q (by omega)]⟩
  have F7b:Fx (· =D) h7 hb:=⟨by have:=Fa.next;omega,λq h1 h2=>by rw[fb.get q (by have:=Fa.next;omega)];exact Fa.get q h1 h2⟩
  have FT: ∀{hh},Fx (· =D) hb hh->Fx (· =D) h7 hh:=λ{hh} f=>⟨by have:=f.next;have:=F7b.next;omega,λq h1 h2=>by rw[f.get q (by have:=F7b.next;omega) h2];exact F7b.get q h1 h2⟩
  have gDf:hf.get D=some (.cells false (rc m λj=> aB (Lq G L i [i] j:Nat))):=by
   rw[gf,iY];congr 2;refine bL λj _=>?_
   rw[show [i]= []++ [i] from rfl,Tz]
   by_cases e:j=i
   ·rw[if_pos e,if_pos e]
   ·rw[if_neg e,if_neg e,QE]
  have gCf:hf.get C=some (.cells false [vx,aB o,aB 0]):=by rw[of _ (by omega),oe _ (by omega)];exact gd
  have owQ:dG hf (.sl (C+1) 0 1 (.kn 1)) 1 (ints (zi [i])) (C+1):= .inr ⟨C+1,1,.kn 1, [],rfl,rfl,.inr ⟨rfl,rfl⟩,gV _,by omega,by rw[of _ (by omega),List.append_nil];exact ge⟩
  have B0:BQ G L S i [i] 0:=⟨by simp,by simp,rfl,λj hj=>by
   obtain rfl:j=i:=by simpa using hj
   exact⟨by omega,De hG E hiL⟩,λk hk=>by omega⟩
  refine bT (λvs hh=> ∃(Q:List Nat) (vQ:V),(∃g:Nat->V,vs= [g 0,.ptr B 0,.ptr (B+1) 0,g 3,vL,g 5,.ptr P 0,vS,.sl D 0 m (.kn m),vK,aB i,g 11,.ptr C 0,vQ,g 14,g 15,g 16,g 17,g 18,g 19,g 20,g 21,g 22,g 23,g 24,g 25,g 26,g 27,g 28,g 29,g 30,g 31,g 32,g 33])/\BQ G L S i Q Q.length/\hh.get C=some (.cells false [vx,aB o,aB (Q.length:Int)])/\C<hh.next/\hh.get D=some (.cells false (rc m λj=> aB (Lq G L i Q j:Nat)))/\Fx (· =D) hb hh) ?_ ?_
  ·refine aG (λk' vs hh=> ∃(Q:List Nat) (vQ:V) (p:Nat),(∃g:Nat->V,vs= [g 0,.ptr B 0,.ptr (B+1) 0,g 3,vL,g 5,.ptr P 0,vS,.sl D 0 m (.kn m),vK,aB i,g 11,.ptr C 0,vQ,aB p,g 15,g 16,g 17,g 18,g 19,g 20,g 21,g 22,g 23,g 24,g 25,g 26,g 27,g 28,g 29,g 30,g 31,g 32,g 33])/\p<=Q.length/\BQ G L S i Q p/\dG hh vQ 1 (ints (zi Q)) (C+1)/\hh.get C=some (.cells false [vx,aB o,aB p])/\C<hh.next/\hh.get D=some (.cells false (rc m λj=> aB (Lq G L i Q j:Nat)))/\Fx (· =D) hb hh/\k'=m-p) m
    ⟨[i],_,0,aA rfl,iP _,B0,owQ,gCf,by omega,gDf,Fbf,rfl⟩ ?_
   clear gDf gCf owQ B0 Fbf ef nf gf of ee ne ge oe fe ed nd gd od ec nc gc' oc fc gDe pt cD d2
   rintro k' vars ka ⟨Q,vQ,p,⟨g2,rfl⟩,hp,BQ0,oQ,gC,nC,gD2,Fk,rfl⟩
   have hQl:=BQ0.len
   have lvQ:=dG.lens oQ (show (ints (zi Q)).length=Q.length by rw[aM,aQ])
   by_cases hpq:(p:Int)<(Q.length:Int)
   case neg=>
    have d5:decide ((p:Int)<(Q.length:Int))=false:=decide_eq_false hpq;obtain rfl:p=Q.length:=by omega
    simp(disch:=omega)only[go_sem,lvQ,d5];exact⟨Q,vQ,aA rfl,BQ0,gC,nC,gD2,Fk⟩
   have d5:decide ((p:Int)<(Q.length:Int))=true:=decide_eq_true hpq
   have hp':p<Q.length:=by omega
   obtain⟨kb,ekb,nkb,gkb,okb⟩:=xX ka C [vx,aB o,aB (p+1:Nat)]
   have pC:=Xv (a:=vx) (b:= aB o) (c:= aB p)
   simp(disch:=omega)only[go_sem,lvQ,d5,H.aF gC,gC,pC,show (p:Int)+1=((p+1:Nat):Int) from rfl,ekb]
   obtain⟨c,hcq⟩:=exI (Q.getD p 0)
   obtain⟨hcm,hcc⟩:=BQ0.mem c (by rw[←hcq];exact bD hp')
   have Cp:=kL hG E hcm
   have okb2: ∀hh,Fx (λq=>q=D∨q=C) kb hh->Fx (· =D) hb hh:=λhh f=>⟨by have:=f.next;have:=Fk.next;omega,λq h1 h2=>by rw[f.get q (by have:=Fk.next;omega) (by rintro (e|e);exact h2 e;omega),okb q (by omega)];exact Fk.get q h1 h2⟩
   have Fkb:Fx (· =D) hb kb:=okb2 kb (Fx.refl _ _)
   have nk:=Fk.next
   have oQb:dG kb vQ 1 (ints (zi Q)) (C+1):=oQ.sC (by omega) λid off n' cp e h1=>okb id (by have:=(oQ.in _ _ _ _ e).2.1;omega)
   have gDb:kb.get D=some (.cells false (rc m λj=> aB (Lq G L i Q j:Nat))):=by rw[okb D (by omega)];exact gD2
   refine aG (λk' vs hh=> ∃(Q:List Nat) (vQ:V) (t:Nat),(∃g:Nat->V,vs= [g 0,.ptr B 0,.ptr (B+1) 0,g 3,vL,g 5,.ptr P 0,vS,.sl D 0 m (.kn m),vK,aB i,g 11,.ptr C 0,vQ,aB p,aB t,g 16,g 17,g 18,g 19,g 20,g 21,g 22,g 23,g 24,g 25,g 26,g 27,g 28,g 29,g 30,g 31,g 32,g 33])/\t<=sl/\p<Q.length/\BQ G L S i Q p/\Q.getD p 0=c/\(∀s∈S.take t,∃j∈Q,L.getD j []=oI (L.getD c []) s)/\dG hh vQ 1 (ints (zi Q)) (C+1)/\hh.get C=some (.cells false [vx,aB o,aB (p+1:Nat)])/\C<hh.next/\hh.get D=some (.cells false (rc m λj=> aB (Lq G L i Q j:Nat)))/\Fx (· =D) hb hh/\k'=sl-t) sl
    ⟨Q,vQ,0,aA rfl,iP _,hp',BQ0,hcq,λs hs=>(by simp at hs),oQb,gkb,by omega,gDb,Fkb,rfl⟩ ?_
   clear BQ0 oQ gC gD2 Fk hcq hp' hQl lvQ d5 hp hpq ekb nkb gkb okb okb2 Fkb oQb gDb nk nC kb ka
   clear Q vQ
   rintro k' vars ka ⟨Q,vQ,t,⟨g3,rfl⟩,ht,hp',BQ0,hcq,hcl,oQ,gC,nC,gD2,Fk,rfl⟩
   have hQl:=BQ0.len
   by_cases htl:(t:Int)<(sl:Int)
   case neg=>
    have d5:decide ((t:Int)<(sl:Int))=false:=decide_eq_false htl;obtain rfl:t=sl:=by omega
    simp(disch:=omega)only[go_sem,lvS,d5];rw[fJ p];refine⟨m-(p+1),by omega,Q,vQ,p+1,aA rfl,by omega,⟨BQ0.nd,BQ0.ne,BQ0.hd,BQ0.mem,λk hk s hs=>?_⟩,oQ,gC,nC,gD2,Fk,rfl⟩
    by_cases e:k=p
    ·subst e
     rw[hcq];exact hcl s (by rw[←hsl,List.take_length];exact hs)
    ·exact BQ0.cl k (by omega) s hs
   have d5:decide ((t:Int)<(sl:Int))=true:=decide_eq_true htl
   have ht':t<sl:=by omega
   have hpQ:p<Q.length:=hp'
   obtain⟨idq,offq,shq,cq⟩:=Hk (h:=ka) (hh:=ka) (b:=Q.length) oQ.sv rfl
   have cqp:=λhh f=>cq hh f p hpQ
   rw[hcq] at cqp
   have f6k:=fD ka (FT Fk)
   have f3k:=fD3 ka (FT Fk)
   obtain⟨_,_,sy⟩:=cS t ht'
   have cy:=cSi t ht'
   obtain⟨_,_,pz⟩:=cL c (by omega)
   have cz:=cLi c (by omega)
   generalize wsS.getD t V.undef=vy at cy sy
   generalize wsL.getD c V.undef=vz at cz pz
   have sz:=pz.si
   obtain⟨s,hs⟩:=exI (S.getD t [])
   rw[hs] at sy
   have hsS:s∈S:=by rw[←hs];exact bD (by omega)
   have Sp:=hG.fA (hSG s hsS)
   simp(disch:=omega)only[go_sem,lvS,d5,shS.ixa,cy ka f6k,shq.ixa,cqp ka (Fr.refl _),shL.ixa,cz ka f3k]
   have fb1:Fr ka (H.mk ka.tr (ka.next+19)):=(Fr.refl ka).bF (by omega)
   refine (Zy vy n s _ (by omega) Sp ((sy.mono f6k).mono fb1)).mono ?_
   rintro v38 k1 np1
   have K1:=fb1.trans np1.fr
   have ez:=SV.eG sz
   have ey:=SV.eG sy
   simp(disch:=omega)only[go_sem,cqp k1 K1,cz k1 (f3k.trans K1),cy k1 (f6k.trans K1),ez,ey]
   refine (wG v38 vz (eX s) (L.getD c []) k1 (by rw[jF,Sp.len];omega) (np1.pv (W:=λ_=>False) id).si (sz.mono (f3k.trans K1)) (λj hj=>by rw[Cp.len];exact Sp.inv.fU (by rw[←Sp.inv.len];exact hj))).mono ?_
   rintro v46 k2 ⟨s46,f46,_⟩
   have K2:=K1.trans f46
   have P2:=Sp.inv.mul Cp
   simp(disch:=omega)only[go_sem,cy k2 (f6k.trans K2),ey]
   refine (wG v46 vy _ s k2 (by rw[P2.len];omega) s46 (sy.mono (f6k.trans K2)) (λj hj=>by rw[Sp.len];exact P2.fU (by rw[←P2.len];exact hj))).mono ?_
   rintro v51 k3 ⟨s51,f51,_⟩
   have K3:=K2.trans f51
   have P3:=P2.mul Sp
   simp(disch:=omega)only[go_sem]
   have hxm:bE (bE (eX s) (L.getD c [])) s∈L:=(E.mem _).2 (hG.mul (hG.mul (hG.inv (hSG s hsS)) (zD E hcm)) (hSG s hsS))
   refine (Sc vL v51 n L _ k3 (by omega) (by omega) LP P3 E.asc (sL.mono (f3k.trans K3)) s51).mono ?_
   rintro v17 k4 ⟨hix,f4'⟩
   rcases hix with ⟨j,rfl,hj,ej⟩|⟨hno,_⟩
   case inr=>exact absurd hxm hno
   have K4:=K3.trans f4'
   have ej':L.getD j []=oI (L.getD c []) s:=ej
   have hij:cR G L i j:=oT hG E (by omega) hcc ⟨s,hSG s hsS,ej'.symm⟩
   have etk:S.take (t+1)=S.take t++ [s]:=by rw[dL [] (by omega),hs]
   have nk4:=K4.next
   have nFk:=Fk.next
   have gD4:k4.get D=some (.cells false (rc m λj=> aB (Lq G L i Q j:Nat))):=by rw[K4.get _ (by omega)];exact gD2
   have gC4:k4.get C=some (.cells false [vx,aB o,aB (p+1:Nat)]):=by rw[K4.get _ nC];exact gC
   have oQ4:=oQ.fr K4
   have F4k:Fx (· =D) hb k4:=⟨by omega,λq h1 h2=>by rw[K4.get q (by omega)];exact Fk.get q h1 h2⟩
   have cDj:=iW gD4 (i:=j) (by omega)
   have hiff:=UA hG E (Q:=Q) hiL hr hj hij
   by_cases hjQ:j∈Q
   ·have d6:decide (((Lq G L i Q j:Nat):Int)=0)=false:=decide_eq_false λh=>hiff.1 (by omega) hjQ
    simp(disch:=omega)only[go_sem,cDj,d6]
    rw[fJ t]
    refine⟨sl-(t+1),by omega,Q,vQ,t+1,aA rfl,by omega,hp',BQ0,hcq,?_,oQ4,gC4,by omega,gD4,F4k,rfl⟩
    rw[etk]
    intro s' hs'
    rcases Bw.1 hs' with h1|h1
    ·exact hcl s' h1
    ·obtain rfl:s'=s:=by simpa using h1
     exact⟨j,hjQ,ej'⟩
   have d6:decide (((Lq G L i Q j:Nat):Int)=0)=true:=decide_eq_true (by rw[hiff.2 hjQ];rfl)
   obtain⟨k5,e5,m5,g5',o5'⟩:=xX k4 D ((rc m λj=> aB (Lq G L i Q j:Nat)).set j (aB (pl+1:Nat)))
   have pt:=bW (vs:=rc m λj=> aB (Lq G L i Q j:Nat)) (off:=j) (by rw[eU];omega)
   have oQ5:dG k5 vQ 1 (ints (zi Q)) (C+1):=oQ4.sC (by omega) λid off n' cp e h1=>o5' id (by have:=(oQ4.in _ _ _ _ e).2.1;omega)
   obtain⟨k6,e6',m6,g6',o6',f6'⟩:=fR (h:=k5) rfl [aB j]
   obtain⟨k7,a7,p7⟩:=(oQ5.fr f6').push (bytes:=8) (SV.one (v:= aB j) (id:=k5.next) (by omega) g6' (.kn 1)) (n:=Q.length) (m:=1) (by rw[aM,aQ];simp) rfl (by omega) (by omega) (by omega)
   have lvK2:=lvK
   rw[hpl] at lvK2
   simp(disch:=omega)only[go_sem,cDj,d6,lvK2,show (pl:Int)+1=((pl+1:Nat):Int) from rfl,gD4,pt,e5,dB k5 (z:= aB 0) (v:= aB j) rfl rfl,e6',a7]
   rw[fJ t]
   have el:ints (zi (Q++ [j]))=ints (zi Q)++ [aB j]:=by simp [zi,ints]
   have m7:=p7.next
   have apq: ∀q,q<=C->eC vQ q:=λq hq id off n' cp e e2=>by have:=(oQ5.in _ _ _ _ e).2.1;omega
   have old7: ∀q,q<=C->q≠D->k7.get q=k4.get q:=λq h1 h2=>by rw[p7.old q (by omega) (apq q h1),o6' q (by omega),o5' q h2]
   have hc0:(rc m λj'=>aB (Lq G L i Q j':Nat)).set j (aB (pl+1:Nat))=rc m λj'=> aB (Lq G L i (Q++ [j]) j':Nat):=by
    rw[iY]
    exact bL λj' _=>by
     rw[Tz,hpl]
     by_cases e:j'=j
     ·rw[if_pos e,if_pos e]
     ·rw[if_neg e,if_neg e]
   refine⟨sl-(t+1),by omega,Q++ [j],_,t+1,aA rfl,by omega,by rw[pW];omega,⟨?_,by rw[pW];simp,?_,?_,?_⟩,?_,?_,by rw[el];exact p7.own (by rw[aM,aQ];omega) rfl (by omega),by rw[old7 C (gV _) (by omega)];exact gC4,by omega,?_,?_,rfl⟩
   ·rw[List.nodup_append]
    exact⟨BQ0.nd,by simp,λx hx y hy e=>by
     obtain rfl:y=j:=by simpa using hy
     exact hjQ (e▸hx)⟩
   ·rw[List.getD,Et BQ0.ne];exact BQ0.hd
   ·intro x hx
    rcases Bw.1 hx with h1|h1
    ·exact BQ0.mem x h1
    ·obtain rfl:x=j:=by simpa using h1
     exact⟨hj,hij⟩
   ·intro k hk s' hs'
    obtain⟨y,hy,ey⟩:=BQ0.cl k hk s' hs'
    refine⟨y,Bw.2 (.inl hy),?_⟩
    rw[ey,List.getD,List.getD,List.getD,List.getD,Et (by omega)]
   ·rw[List.getD,Et hp'];exact hcq
   ·rw[etk]
    intro s' hs'
    rcases Bw.1 hs' with h1|h1
    ·obtain⟨y,hy,ey⟩:=hcl s' h1
     exact⟨y,Bw.2 (.inl hy),ey⟩
    ·obtain rfl:s'=s:=by simpa using h1
     exact⟨j,Bw.2 (.inr (by simp)),ej'⟩
   ·rw[p7.old D (by omega) (apq D (by omega)),o6' D (by omega),g5',hc0]
   ·refine⟨by omega,λq h1 h2=>?_⟩
    rw[old7 q (by omega) h2]
    exact F4k.get q h1 h2
  clear gDf gCf owQ B0 Fbf ef nf gf of ee ne ge oe fe ed nd gd od ec nc gc' oc fc gDe pt cD d2
  rintro vars ka ⟨Q,vQ,⟨g2,rfl⟩,BQ1,gC,nC,gD2,Fk⟩
  have hQ:=BQ1.done hG E (gV _) hiL hSG hSgen
  have hQo:Q.length=(kF G L i).length:=by
   have:=(List.perm_ext_iff_of_nodup BQ1.nd (Bl (G:=G) (L:=L) i)).2 λj=>by rw[hQ j,kX]
   exact this.length_eq
  have hQl:=BQ1.len
  have nk:=Fk.next
  obtain⟨kc,ekc,nkc,gkc,okc,fkc⟩:=fR (h:=ka) rfl [vx,aB o,aB (Q.length:Int)]
  have F7k:=FT Fk
  have ow':dG kc vK 3 (eV ks) (D+1):=ow.sC (by have:=fb.next;omega) λid off n' cp e h1=>by
   have h2:=(ow.in _ _ _ _ e).2.1;rw[okc id (by omega),Fk.get id (by omega) (λe=>by have:id=D:=e;omega),fb.get id (by omega)]
  obtain⟨kd,akd,pkd⟩:=ow'.push (bytes:=40) (y:= .sl ka.next 0 1 (.kn 1)) (us:= [vx,aB o,aB (Q.length:Int)]) (SV.all rfl (by omega) gkc _) (n:=ks.length) (m:=1) (by rw[gX]) rfl (by omega) (by omega) (by omega)
  have nkd:=pkd.next
  simp(disch:=omega)only[go_sem,aU gC,Nu ovx.2.1,ekc,akd]
  rw[fJ i]
  obtain⟨ke,hke1,hke2,hke3⟩: ∃a:Cls.KE,a.rep=vx/\a.ord=o/\a.size=Q.length:=⟨⟨vx,o,Q.length,.aC,0,⟨ovx.1,ovx.2.1,SV.eG si⟩,⟨rfl,rfl,rfl⟩⟩,rfl,rfl,rfl⟩
  have ap: ∀q,q<=D->eC vK q:=λq hq id off n' cp e e2=>by have:=(ow.in _ _ _ _ e).2.1;omega
  refine⟨m-(i+1),by omega,i+1,_,ks++ [ke],aA rfl,by omega,?_,?_,?_,by omega,?_,rfl⟩
  ·have t:=pkd.own (b:=D+1) (by rw[gX]) rfl (by omega)
   have e:eV (ks++ [ke])=eV ks++ [vx,aB o,aB (Q.length:Int)]:=by rw[FH];simp [eV,hke1,hke2,hke3]
   rw[e]
   exact t
  ·rw[(oC i).1 hr]
   exact al.append ⟨⟨by rw[hke2,ho],by rw[hke3,hQo],by rw[hke1];exact pi⟩,trivial⟩
  ·rw[pkd.old D (by omega) (ap D (gV _)),okc D (by omega),gD2,bL λj hj=>by rw[ME hG E hiL hr hQ (by omega)]]
  ·refine⟨by have:=F7k.next;omega,λq h1 h2=>?_⟩
   have h2':q≠D:=h2
   rw[pkd.old q (by have:=F7k.next;omega) (ap q (by omega)),okc q (by have:=F7k.next;omega)]
   exact F7k.get q h1 h2
 rintro vars h8 ⟨vK,ks,⟨g,rfl⟩,ow,al,gD,nD,F8⟩
 obtain⟨K,ik⟩:=YA n G L
 obtain⟨M,hM⟩:=exI (cE G L m)
 rw[hM] at al
 have lks:=aZ.length al
 obtain⟨w,hw⟩:=exI M.length
 rw[hw] at lks
 have hwm:w<=m:=by
  rw[←hw,←hM];unfold cE;exact Nat.le_trans (List.length_filter_le _ _) (by rw[List.length_range];exact gV _)
 have lvK:dC vK=some (aB w):=by unfold dC;rw[SV.len ow.sv (n:=w) (by rw[gX,lks]) (by omega)];rfl
 obtain⟨idK,offK,shK,hidK,hcK⟩:=SV.shape ow.sv w (by rw[gX,lks]) (by omega)
 rw[gX,lks] at hcK
 have f68:=fD h8 F8
 have f38:=fD3 h8 F8
 have rK: ∀i,(hi:i<w)-> ∀hh,Fr h8 hh->hh.row idK (offK+i*3) 3=some [(ks[i]'(by omega)).rep,aB ((ks[i]'(by omega)).ord:Int),aB ((ks[i]'(by omega)).size:Int)]:=λi hi hh f=>by
  obtain⟨p1,p2,p3⟩:=yL (ks:=ks) (i:=i) (by omega);refine Yg ?_ ?_ ?_
  ·rw[f.cell (hidK (by omega)),hcK _ (by omega),p1]
  ·rw[f.cell (hidK (by omega)),Nat.add_assoc,hcK _ (by omega),p2]
  ·rw[f.cell (hidK (by omega)),Nat.add_assoc,hcK _ (by omega),p3]
 obtain⟨N,hN⟩:=exI h8.next
 obtain⟨h9,e9,n9,g9,o9,f9⟩:=fR hN (rc w λ_=> aB 0)
 simp(disch:=omega)only[go_sem,lvK,lD _ w (by omega),hN,e9]
 have n8:=F8.next
 have fN: ∀hh,Fx (· =N) h9 hh->Fr h8 hh:=λhh f=>⟨by have:=f.next;omega,λq hq=>by rw[f.get q (by omega) (λe=>by have:q=N:=e;omega)];exact o9 q (by omega)⟩
 have KFa: ∀i,(hi:i<w)->AU n G L (λq=>q<h2.next) h3 (ks[i]'(by omega)) (M.getD i 0)/\M.getD i 0<L.length:=λi hi=>by
  have h1:=aZ.get al i (by omega) (by omega);have e:M.getD i 0=M[i]'(by omega):=bJ (by omega);have hm2:M.getD i 0∈cE G L m:=by rw[hM];exact bD (by omega)
  refine⟨by rw[e];exact h1,?_⟩;have:=(lB.1 hm2).1;omega
 obtain⟨bK,hbK⟩: ∃bK:Nat->Nat->Bool,∀k i,bK k i=true↔Qb n G L (M.getD k 0) (M.getD i 0):=by
  classical
  exact⟨λk i=>decide (Qb n G L (M.getD k 0) (M.getD i 0)),λk i=>by simp⟩
 have nbK: ∀i,i<w->Lj (λu=>bK u i) w=K.idxOf (M.getD i 0):=λi hi=>by
  have:=HV ik (λu=>bK u i) (t:=i) (by rw[hm,hM];omega) (λu hu=>by rw[hm,hM];exact hbK u i);rw[hm,hM,hw] at this;exact this
 refine bT (λvs hh=>(∃g:Nat->V,vs= [g 0,.ptr B 0,.ptr (B+1) 0,g 3,vL,g 5,.ptr P 0,g 7,.sl D 0 m (.kn m),vK,g 10,g 11,g 12,g 13,g 14,g 15,g 16,g 17,.sl N 0 w (.kn w),g 19,g 20,g 21,g 22,g 23,g 24,g 25,g 26,g 27,g 28,g 29,g 30,g 31,g 32,g 33])/\hh.get N=some (.cells false (rc w λt=> aB (K.idxOf (M.getD t 0):Nat)))/\N<hh.next/\Fx (· =N) h9 hh) ?_ ?_
 ·refine aG (λk' vs hh=> ∃(i:Nat),(∃g:Nat->V,vs= [g 0,.ptr B 0,.ptr (B+1) 0,g 3,vL,g 5,.ptr P 0,g 7,.sl D 0 m (.kn m),vK,g 10,g 11,g 12,g 13,g 14,g 15,g 16,g 17,.sl N 0 w (.kn w),aB i,g 20,g 21,g 22,g 23,g 24,g 25,g 26,g 27,g 28,g 29,g 30,g 31,g 32,g 33])/\i<=w/\hh.get N=some (.cells false (rc w λt=> aB (if t<i then K.idxOf (M.getD t 0) else 0:Nat)))/\N<hh.next/\Fx (· =N) h9 hh/\k'=w-i) w
   ⟨0,aA rfl,iP _,by rw[g9];rfl,by omega,Fx.refl _ _,rfl⟩ ?_
  rintro k' vars ha ⟨i,⟨g,rfl⟩,hi,gN,nN,Fa,rfl⟩
  by_cases hlt:(i:Int)<(w:Int)
  case neg=>
   have d1:=fF hlt;obtain rfl:i=w:=by omega
   simp(disch:=omega)only[go_sem,lvK,d1];exact⟨aA rfl,by rw[gN,bL λj hj=>by rw[if_pos hj]],nN,Fa⟩
  have d1:=iK hlt
  have hiw:i<w:=by omega
  simp(disch:=omega)only[go_sem,lvK,d1]
  refine aG (λk' vs hh=> ∃(k:Nat),(∃g:Nat->V,vs= [g 0,.ptr B 0,.ptr (B+1) 0,g 3,vL,g 5,.ptr P 0,g 7,.sl D 0 m (.kn m),vK,g 10,g 11,g 12,g 13,g 14,g 15,g 16,g 17,.sl N 0 w (.kn w),aB i,aB k,g 21,g 22,g 23,g 24,g 25,g 26,g 27,g 28,g 29,g 30,g 31,g 32,g 33])/\k<=w/\hh.get N=some (.cells false (rc w λt=> aB (if t<i then K.idxOf (M.getD t 0) else if t=i then Lj (λu=>bK u i) k else 0:Nat)))/\N<hh.next/\Fx (· =N) h9 hh/\k'=w-k) w
   ⟨0,aA rfl,iP _,by
    rw[gN,bL λj hj=>?_]
    by_cases e:j<i
    ·rw[if_pos e,if_pos e]
    ·rw[if_neg e,if_neg e];split<;>rfl,nN,Fa,rfl⟩ ?_
  clear gN nN Fa ha
  rintro k' vars ha ⟨k,⟨g,rfl⟩,hk,gN,nN,Fa,rfl⟩
  by_cases hlk:(k:Int)<(w:Int)
  case neg=>
   have d2:decide ((k:Int)<(w:Int))=false:=decide_eq_false hlk;obtain rfl:k=w:=by omega
   simp(disch:=omega)only[go_sem,lvK,d2];rw[fJ i];refine⟨k-(i+1),by omega,i+1,aA rfl,by omega,?_,nN,Fa,rfl⟩;rw[gN,bL λj hj=>?_]
   by_cases e:j<i
   ·rw[if_pos e,if_pos (by omega)]
   ·rw[if_neg e]
    by_cases e2:j=i
    ·subst e2;rw[if_pos rfl,if_pos (by omega),nbK j hj]
    ·rw[if_neg e2,if_neg (by omega)]
  have d2:decide ((k:Int)<(w:Int))=true:=decide_eq_true hlk
  have hkw:k<w:=by omega
  have fa8:=fN ha Fa
  simp(disch:=omega)only[go_sem,lvK,d2,shK.ixa,rK k hkw ha fa8,rK i hiw ha fa8]
  obtain⟨kf1,lt1⟩:=KFa k hkw
  obtain⟨kf2,lt2⟩:=KFa i hiw
  have fbm:Fr ha (H.mk ha.tr (ha.next+9)):=(Fr.refl ha).bF (by omega)
  have ebk:(ks[k]'(by omega)).ord<(ks[i]'(by omega)).ord∨(ks[k]'(by omega)).ord=(ks[i]'(by omega)).ord/\((ks[k]'(by omega)).size<(ks[i]'(by omega)).size∨(ks[k]'(by omega)).size=(ks[i]'(by omega)).size/\Lt (L.getD (M.getD k 0) []) (L.getD (M.getD i 0) []))↔bK k i=true:=by
   rw[hbK,kf1.ord,kf1.size,kf2.ord,kf2.size,TD E lt1 lt2];rfl
  refine (Xp _ _ n (L.getD (M.getD k 0) []) (L.getD (M.getD i 0) []) _ (by omega) (kL hG E lt1).len (kL hG E lt2).len (((kf1.rep.si.mono f38).mono fa8).mono fbm) (((kf2.rep.si.mono f38).mono fa8).mono fbm) (bK k i) ebk).mono ?_
  rintro _ hb ⟨rfl,fb⟩
  have Fb:Fx (· =N) h9 hb:=⟨by have:=Fa.next;have:=fbm.next;have:=fb.next;omega,λq h1 h2=>by rw[fb.get q (by have:=Fa.next;have:=fbm.next;omega),fbm.get q (by have:=Fa.next;omega)];exact Fa.get q h1 h2⟩
  have gNb:=gN
  rw[←(fbm.trans fb).get N nN] at gNb
  have nNb:=(fbm.trans fb).next
  have cNi:=iW gNb hiw
  rw[if_neg (by omega),if_pos rfl] at cNi
  have cs:=DN (λu=>bK u i) k
  have cl:=UQ (λu=>bK u i) k
  cases hb1:bK k i with
  |false=>
   simp(disch:=omega)only[go_sem];rw[fJ k];have cs:Lj (λu=>bK u i) (k+1)=Lj (λu=>bK u i) k:=by rw[cs,hb1];rfl
   exact⟨w-(k+1),by omega,k+1,aA rfl,by omega,by rw[gNb,cs],by omega,Fb,rfl⟩
  |true=>
   rw[hb1,if_pos rfl] at cs;have pt:=bW (vs:=rc w λt=>aB (if t<i then K.idxOf (M.getD t 0) else if t=i then Lj (λu=>bK u i) k else 0:Nat)) (off:=i) (by rw[eU];omega);simp(disch:=omega)only[go_sem,cNi,gNb,pt];rw[fJ k];refine⟨w-(k+1),by omega,k+1,aA rfl,by omega,?_,(show N<hb.next by omega),⟨(show h9.next<=hb.next from Fb.next),λq h1 h2=>by rw[H.aI _ h2];exact Fb.get q h1 h2⟩,rfl⟩;rw[iY];congr 2;refine bL λj hj=>?_
   by_cases e:j=i
   ·subst e
    rw[if_pos rfl,if_neg (by omega),if_pos rfl,cs];rfl
   ·rw[if_neg e,if_neg e,if_neg e]
 clear n9 g9 o9 f9 e9
 rintro vars ha ⟨⟨g,rfl⟩,gN,nN,Fa⟩
 have fa8:=fN ha Fa
 have na:=Fa.next
 have hPD:P<D:=by omega
 have gPa:ha.get P=some (.cells false [aB n,vO,vR,vL,.aC,.aC]):=by
  rw[fa8.get P (by omega),F8.get P (by omega) (λe=>by have:P=D:=e;omega),o7 P (by omega),f6.get P (by omega)];exact g5
 have gAa:ha.get (B+1)=some (.cells false [aB 0,.aC,.aC,.aC,.aC,.aC]):=by
  rw[fa8.get _ (by omega),f38.get _ (by omega),f3.get _ (by omega)];exact g2
 have gDa:ha.get D=some (.cells false (rc m λj=> aB (Fv G L m j:Nat))):=by rw[fa8.get _ (by omega)];exact gD
 obtain⟨T',hT⟩:=exI ha.next
 obtain⟨hb,eb,nb,gb,ob,fb⟩:=fR hT (eV (List.replicate w VL))
 obtain⟨hc,ec,nc,gc',oc⟩:=xX hb P [aB n,vO,vR,vL,.sl T' 0 w (.kn w),.aC]
 have gPb:hb.get P=some (.cells false [aB n,vO,vR,vL,.aC,.aC]):=by rw[fb.get _ (by omega)];exact gPa
 have p4: ∀(hh:H) (y:V),fG (some (.cells false [aB n,vO,vR,vL,.aC,.aC])) hh P 4 [y]=some (hh.set P (some (.cells false [aB n,vO,vR,vL,y,.aC]))):=λhh y=>by simp [fG,putAt]
 simp(disch:=omega)only[go_sem,lvK,aaV ha w (by omega),hT,eb,gPb,p4,ec]
 have ndM:M.Nodup:=by rw[←hM];exact Gl _
 have pK:K.Perm M:=by rw[←hM,←hm];exact ik.perm
 have lK:K.length=w:=by rw[pK.length_eq,hw]
 have U0: ∀q,q<T'->q≠P->hc.get q=ha.get q:=λq h1 h2=>by rw[oc q h2,ob q (by omega)]
 have geK:0<w->D+1<=idK:=λh0=>dG.ge ow (n:=w) (by rw[gX,lks]) (by omega) shK h0
 refine bT (λvs hh=>(∃g:Nat->V,vs= [g 0,.ptr B 0,.ptr (B+1) 0,g 3,vL,g 5,.ptr P 0,g 7,.sl D 0 m (.kn m),vK,g 10,g 11,g 12,g 13,g 14,g 15,g 16,g 17,.sl N 0 w (.kn w),g 19,g 20,g 21,g 22,g 23,g 24,g 25,g 26,g 27,g 28,g 29,g 30,g 31,g 32,g 33])/\hh.get P=some (.cells false [aB n,vO,vR,vL,.sl T' 0 w (.kn w),.aC])/\hh.get T'=some (.cells false (eV (Sn M K ks w w)))/\T'<hh.next/\ ∀q,q<T'->q≠P->hh.get q=ha.get q) ?_ ?_
 ·refine aG (λk' vs hh=> ∃(t:Nat),(∃g:Nat->V,vs= [g 0,.ptr B 0,.ptr (B+1) 0,g 3,vL,g 5,.ptr P 0,g 7,.sl D 0 m (.kn m),vK,g 10,g 11,g 12,g 13,g 14,g 15,g 16,g 17,.sl N 0 w (.kn w),g 19,g 20,aB t,g 22,g 23,g 24,g 25,g 26,g 27,g 28,g 29,g 30,g 31,g 32,g 33])/\t<=w/\hh.get P=some (.cells false [aB n,vO,vR,vL,.sl T' 0 w (.kn w),.aC])/\hh.get T'=some (.cells false (eV (Sn M K ks w t)))/\T'<hh.next/\(∀q,q<T'->q≠P->hh.get q=ha.get q)/\k'=w-t) w
   ⟨0,aA rfl,iP _,gc',by rw[oc T' (by omega),IW];exact gb,by omega,U0,rfl⟩ ?_
  clear U0 gc' oc nc ec gPb gb ob fb nb eb
  rintro k' vars hd ⟨t,⟨g,rfl⟩,ht,gP,gT,nT,U,rfl⟩
  by_cases hlt:(t:Int)<(w:Int)
  case neg=>
   have d1:=fF hlt;obtain rfl:t=w:=by omega
   simp(disch:=omega)only[go_sem,lvK,d1];exact⟨aA rfl,gP,gT,nT,U⟩
  have d1:=iK hlt
  have htw:t<w:=by omega
  have gNd:hd.get N=some (.cells false (rc w λt=> aB (K.idxOf (M.getD t 0):Nat))):=by rw[U N (by omega) (by omega)];exact gN
  have cN:=iW gNd htw
  have hq0:K.idxOf (M.getD t 0)<w:=by
   have hm2:M.getD t 0∈K:=pK.mem_iff.2 (bD (by omega));have:=List.idxOf_lt_length_iff.2 hm2;omega
  have ks1:=RB (ks:=ks) pK ndM hw htw
  have ek:ks.getD t VL=ks[t]'(by omega):=by rw[List.getD,fX (by omega)];rfl
  rw[ek] at ks1
  generalize K.idxOf (M.getD t 0)=q0 at cN hq0 ks1
  have rKd:hd.row idK (offK+t*3) 3=some [(ks[t]'(by omega)).rep,aB ((ks[t]'(by omega)).ord:Int),aB ((ks[t]'(by omega)).size:Int)]:=by
   have h1:=rK t htw h8 (Fr.refl _);have h2:=hidK (by omega);have h3:=geK (by omega);unfold H.row at h1 ⊢;rw[U idK (by omega) (by omega),fa8.get idK h2];exact h1
  have one4:=(ks[t]'(show t<ks.length by omega)).hrep.2.1
  generalize ks[t]'(show t<ks.length by omega)=a at ks1 rKd one4
  have pt:=λhh=>ON (ks:=Sn M K ks w t) (i:=q0) (by rw[Zj];exact hq0) hh T' a
  simp only[Nat.zero_add] at pt
  simp(disch:=omega)only[go_sem,lvK,d1,H.aF gP,cN,shK.ixa,rKd,gI _ T' _ (v:=a.rep) (u:= aB (a.ord:Int)) (w:= aB (a.size:Int)) one4 rfl rfl,gT,pt]
  rw[fJ t]
  refine⟨w-(t+1),by omega,t+1,aA rfl,by omega,?_,by rw[ks1],(show T'<hd.next+12 by omega),λq h1 h2=>?_,rfl⟩
  ·exact gP
  ·rw[H.aI _ (by omega)];exact U q h1 h2
 clear U0 gc' oc nc ec gPb gb ob fb nb eb hc hb
 rintro vars hb ⟨⟨g,rfl⟩,gP,gT,nT,U⟩
 simp(disch:=omega)only[go_sem]
 refine bT (λvs hh=> ∃(vM:V),(∃g:Nat->V,vs= [g 0,.ptr B 0,.ptr (B+1) 0,g 3,vL,g 5,.ptr P 0,g 7,.sl D 0 m (.kn m),vK,g 10,g 11,g 12,g 13,g 14,g 15,g 16,g 17,.sl N 0 w (.kn w),g 19,g 20,g 21,g 22,g 23,g 24,g 25,g 26,g 27,g 28,g 29,g 30,g 31,g 32,g 33])/\hh.get P=some (.cells false [aB n,vO,vR,vL,.sl T' 0 w (.kn w),vM])/\dG hh vM 1 (ints (zi (sV G L K))) (T'+1)/\hh.get T'=some (.cells false (eV (Sn M K ks w w)))/\T'<hh.next/\ ∀q,q<T'->q≠P->hh.get q=ha.get q) ?_ ?_
 ·refine aG (λk' vs hh=> ∃(j:Nat) (vM:V),(∃g:Nat->V,vs= [g 0,.ptr B 0,.ptr (B+1) 0,g 3,vL,g 5,.ptr P 0,g 7,.sl D 0 m (.kn m),vK,g 10,g 11,g 12,g 13,g 14,g 15,g 16,g 17,.sl N 0 w (.kn w),g 19,g 20,g 21,aB j,g 23,g 24,g 25,g 26,g 27,g 28,g 29,g 30,g 31,g 32,g 33])/\j<=m/\hh.get P=some (.cells false [aB n,vO,vR,vL,.sl T' 0 w (.kn w),vM])/\dG hh vM 1 (ints (zi ((sV G L K).take j))) (T'+1)/\hh.get T'=some (.cells false (eV (Sn M K ks w w)))/\T'<hh.next/\(∀q,q<T'->q≠P->hh.get q=ha.get q)/\k'=m-j) m
   ⟨0,.aC,aA rfl,iP _,gP,dG.aC _ _ _,gT,nT,U,rfl⟩ ?_
  clear gP gT nT U hb
  rintro k' vars hb ⟨j,vM,⟨g,rfl⟩,hj,gP,oM,gT,nT,U,rfl⟩
  have lN:(sV G L K).length=m:=by simp [sV,hm]
  by_cases hlt:(j:Int)<(m:Int)
  case neg=>
   have d1:=fF hlt;obtain rfl:j=m:=by omega
   simp(disch:=omega)only[go_sem,lvL,d1];rw[List.take_of_length_le (by omega)] at oM;exact⟨vM,aA rfl,gP,oM,gT,nT,U⟩
  have d1:=iK hlt
  have hjm:j<m:=by omega
  have gDb:hb.get D=some (.cells false (rc m λj=> aB (Fv G L m j:Nat))):=by rw[U D (by omega) (by omega)];exact gDa
  have gNb:hb.get N=some (.cells false (rc w λt=> aB (K.idxOf (M.getD t 0):Nat))):=by rw[U N (by omega) (by omega)];exact gN
  have cD:=iW gDb hjm
  have ld:=OW hG E (j:=j) (by omega)
  obtain⟨q1,q2⟩:=HX hG E ik (j:=j) (by omega)
  rw[hm,hM] at ld q1 q2
  rw[ld] at cD
  rw[hw] at q1
  generalize oU G L M j=u at cD q1 q2
  have cN:=iW gNb q1
  rw[←q2] at cN
  have eN:(sV G L K).take (j+1)=(sV G L K).take j++ [oU G L K j]:=by
   rw[dL 0 (by omega)];have:(sV G L K).getD j 0=oU G L K j:=by simp [sV,hm,hjm]
   rw[this]
  have hcK:oU G L K j<=K.length:=by unfold oU;exact List.findIdx_le_length
  generalize oU G L K j=c at cN eN hcK
  obtain⟨hc,ehc⟩: ∃hc:H,hc=H.mk ((H.mk hb.tr (hb.next+10)).new (.cells false [aB c])).tr (hb.next+14):=⟨_,rfl⟩
  have nc:hc.next=hb.next+14:=by rw[ehc]
  have gc':hc.get (hb.next+10)=some (.cells false [aB c]):=by rw[ehc];exact H.aN (H.mk hb.tr (hb.next+10)) _
  have oc: ∀q,q≠hb.next+10->hc.get q=hb.get q:=λq hq=>by rw[ehc];exact H.bU (H.mk hb.tr (hb.next+10)) hq _
  have fc:Fr hb hc:=⟨by omega,λq hq=>oc q (by omega)⟩
  obtain⟨hd,ad,pd⟩:=(oM.fr fc).push (bytes:=8) (SV.one (v:= aB c) (id:=hb.next+10) (by omega) gc' (.kn 1)) (n:=j) (m:=1) (by rw[aM,aQ,Nn];omega) rfl (by omega) (by omega) (by omega)
  have nd:=pd.next
  have apM: ∀q,q<=T'->eC vM q:=λq hq id off n' cp e e2=>by have:=(oM.in _ _ _ _ e).2.1;omega
  have od: ∀q,q<=T'->hd.get q=hb.get q:=λq hq=>by
   rw[pd.old q (by omega) (apM q hq),oc q (by omega)]
  have gPd:hd.get P=some (.cells false [aB n,vO,vR,vL,.sl T' 0 w (.kn w),vM]):=by rw[od P (by omega)];exact gP
  have p5: ∀(hh:H) (y:V),fG (some (.cells false [aB n,vO,vR,vL,.sl T' 0 w (.kn w),vM])) hh P 5 [y]=some (hh.set P (some (.cells false [aB n,vO,vR,vL,.sl T' 0 w (.kn w),y]))):=λhh y=>by simp [fG,putAt]
  simp(disch:=omega)only[go_sem,lvL,d1,H.aF gP,cD,show ((u+1:Nat):Int)- 1=(u:Int) from by omega,cN,dB _ (z:= aB 0) (v:= aB c) rfl rfl,←ehc,ad,gPd,p5]
  rw[fJ j]
  have t:=pd.own (b:=T'+1) (by rw[aM,aQ,Nn];omega) rfl (by omega)
  have el:ints (zi ((sV G L K).take (j+1)))=ints (zi ((sV G L K).take j))++ [aB c]:=by rw[eN];simp [zi,ints]
  rw[←el] at t
  refine⟨m-(j+1),by omega,j+1,_,aA rfl,by omega,rfl,?_,?_,(show T'<hd.next by omega),λq h1 h2=>?_,rfl⟩
  ·exact t.mono (gV _) λid off n' cp e h1 h2=>H.aI _ (by omega) _
  ·rw[od T' (gV _)];exact gT
  ·rw[H.aI _ h2,od q (by omega)];exact U q h1 h2
 clear gP gT nT U hb
 rintro vars hb ⟨vM,⟨g,rfl⟩,gP,oM,gT,nT,U⟩
 have gA:hb.get (B+1)=some (.cells false [aB 0,.aC,.aC,.aC,.aC,.aC]):=by rw[U _ (by omega) (by omega)];exact gAa
 have oneM:=(SV.dS oM.sv).2.1
 simp(disch:=omega)only[go_sem,Da gP,rZ _ (B+1) (a:= aB n) (b:=vO) (c:=vR) (d:=vL) (e:= .sl T' 0 w (.kn w)) (f:=vM) rfl one3.1 one3.2 wL.2.1 rfl oneM,gA,oY,Da (H.aT ..)]
 obtain⟨hz,ez⟩:=exI (hb.set (B+1) (some (.cells false [aB n,vO,vR,vL,.sl T' 0 w (.kn w),vM])))
 rw[ez]
 have nz:hz.next=hb.next:=by rw[←ez];rfl
 have oz: ∀q,q≠B+1->hz.get q=hb.get q:=λq hq=>by rw[←ez];exact H.aI _ hq _
 have x3:Fx (λq=>q<h2.next) h3 hz:=⟨by omega,λq h1 h2=>by rw[oz q (by omega),U q (by omega) (by omega),fa8.get q (by omega),f38.get q h1]⟩
 have nf38:=f38.next
 refine⟨vO,vR,K,_,rfl,rfl,ik,⟨vL,T',Sn M K ks w w,vM,by rw[lK],by omega,by omega,by rw[oz T' (by omega)];exact gT,?_,?_,?_⟩,?_⟩
 ·exact (KY pK hw al).mono λa r k=>⟨k.ord,k.size,PV.go k.rep x3 λq y1 y2=>(show q<h2.next from by omega)⟩
 ·exact gG.sp' (owL.sC x3.next λid off n' cp e h1=>x3.get id h1 (by have:=(owL.in _ _ _ _ e).2.1;omega)).sv (pvL.fx x3)
 ·exact (oM.sC (by omega) λid off n' cp e h1=>oz id (by have:=(oM.in _ _ _ _ e).2.1;omega)).sv
 ·refine⟨by omega,λq hq=>?_⟩
  rw[oz q (by omega),U q (by omega) (by omega),fa8.get q (by omega),f38.get q (by omega)]
  exact (F2.trans f3).get q (by omega)
end
section
variable {n:Nat} {G:List Nat->Prop} {L:LN}
theorem AU.go {W W':Nat->Prop}{h h':H}{a:Cls.KE}{r:Nat}(k:AU n G L W h a r)(f:Fx W h h')(hw: ∀id,id<h.next->W' id->W id):AU n G L W' h' a r:=⟨k.ord,k.size,PV.go k.rep f hw⟩
theorem AU.fr {W:Nat->Prop}{h h':H}{a:Cls.KE}{r:Nat}(k:AU n G L W h a r)(f:Fr h h'):AU n G L W h' a r:=⟨k.ord,k.size,k.rep.si.mono f,k.rep.off⟩
theorem ZH.open {K:List Nat}{b:Nat}{vO vR:V}{hh:H}{v:V}(r:ZH n G L K b vO vR hh v):
  ∃vL S ks vM,v= .agg [aB n,vO,vR,vL,.sl S 0 K.length (.kn K.length),vM]/\vL.one=true/\vM.one=true/\b<=S/\S<hh.next/\hh.get S=bX (eV ks)/\ks.length=K.length/\aZ (AU n G L (λq=>q<b∨S<=q) hh) ks K/\SP hh vL L/\SI hh vM (zi (sV G L K)):=by
 obtain⟨vL,S,ks,vM,e,h1,h2,h3,h4,h5,h6⟩:=r.ex
 exact⟨vL,S,ks,vM,e,(SV.dS (show SV hh vL 1 _ from h5.choose_spec.1)).2.1,(SV.dS h6).2.1,h1,h2,h3,aZ.length h4,h4,h5,h6⟩
end
set_option maxHeartbeats 8000000
theorem ZH.fr {n:Nat}{G:List Nat->Prop}{L:LN}{K:List Nat}{b:Nat}{vO vR:V}{hh h':H}{v:V}(r:ZH n G L K b vO vR hh v)(f:Fr hh h'):ZH n G L K b vO vR h' v:=by
 obtain⟨vL,S,ks,vM,e,h1,h2,h3,h4,h5,h6⟩:=r.ex;exact⟨vL,S,ks,vM,e,h1,kZ h2 f.next,by rw[f.get _ h2];exact h3,h4.mono λ_ _ k=>AU.fr k f,h5.mono f,h6.mono f⟩
theorem II (h:H){a b c d e f:V}(ha:a.one=true)(hb:b.one=true)(hc:c.one=true)(hd:d.one=true)(he:e.one=true)(hf:f.one=true):Gz h (.agg [a,b,c,d,e,f])=some (.ptr h.next 0,h.new (.cells false [a,b,c,d,e,f])):=yC h _ (by simp [ha,hb,hc,hd,he,hf])
theorem Kb (n:Nat)(G:List Nat->Prop)(L:LN)(K:List Nat)(b:Nat)(vO vR vg:V)(z:Int)(h:H)(n0:1<=n)(n7:n<=7)(hG:tP n G)(E:iR G L)(hl:L.length<=5040)(ik:Ck n G L K)(hz: -9223372036854775808<=z/\z<9223372036854775808)(oneO:vO.one=true)(oneR:vR.one=true)(rd:ZH n G L K b vO vR h vg):
  Ev T 49 [vg,aB z] h (λv h'=>SV h' v 1 (rc K.length λk=> aB (rH n G L K z (K.getD k 0):Nat))/\Fr h h'):=by
 obtain⟨vL,S,ks,vM,rfl,oneL,oneM,hbS,nS,gS,lks,al,sL,sM⟩:=rd.open
 refine bP mD rfl rfl ?_
 have hKL:K.length<=5040:=by
  rw[ik.perm.length_eq];unfold cE;exact Nat.le_trans (List.length_filter_le _ _) (by rw[List.length_range];omega)
 obtain⟨P,hP⟩:=exI h.next
 obtain⟨w,hw⟩:=exI K.length
 rw[hw] at lks hKL ⊢
 obtain⟨h1,e1,n1,g1,o1,f1⟩:=fR hP [aB n,vO,vR,vL,.sl S 0 w (.kn w),vM]
 have bx:=II h (a:= aB n) (b:=vO) (c:=vR) (d:=vL) (e:= .sl S 0 w (.kn w)) (f:=vM) rfl oneO oneR oneL rfl oneM
 have lvL:=sL.lens
 have eM:=SV.eG (show SV h vM 1 _ from sM)
 obtain⟨idM,offM,shM,cM⟩:=Hk (hh:=h) (b:=L.length) sM (by simp [sV])
 have nz:(rc w λk=>aB (rH n G L K z (K.getD k 0):Nat)).length=w:=eU ..
 simp(disch:=omega)only[go_sem,mD,aE,hw,bx,hP,e1]
 refine aG (λk' vars hh=> ∃(i:Nat) (vo:V),(∃g:Nat->V,vars= [g 0,aB z,.ptr P 0,g 3,vo,aB i,g 6,g 7])/\i<=w/\dG hh vo 1 (rc i λk=> aB (rH n G L K z (K.getD k 0):Nat)) h1.next/\Fr h1 hh/\k'=w-i) w
  ⟨0,.aC,aA rfl,iP _,dG.aC _ _ _,Fr.refl _,rfl⟩ ?_
 rintro k' vars hh ⟨i,vo,⟨g,rfl⟩,hi,ow,F,rfl⟩
 have nF:=F.next
 have gP:hh.get P=bX [aB n,vO,vR,vL,.sl S 0 w (.kn w),vM]:=by rw[F.get P (by omega)];exact g1
 by_cases hlt:(i:Int)<(w:Int)
 case neg=>
  have d1:=fF hlt;obtain rfl:i=w:=by omega
  simp(disch:=omega)only[go_sem,H.aF gP,d1];exact⟨ow.sv,f1.trans F⟩
 have d1:=iK hlt
 have hiw:i<w:=by omega
 have F0:=f1.trans F
 have k1:=aZ.get al i (by omega) (by omega)
 obtain⟨p1,_,_⟩:=yL (ks:=ks) (i:=i) (by omega)
 have cS:hh.cell S (i*3)=some (ks[i]'(by omega)).rep:=by rw[F0.cell nS,H.aF gS];exact p1
 obtain⟨a,ha⟩:=exI (ks[i]'(show i<ks.length by omega))
 rw[ha] at k1 cS
 obtain⟨r,hr⟩:=exI (K[i]'(by omega))
 rw[hr] at k1
 have hrK:r∈K:=by rw[←hr];exact List.getElem_mem _
 have hrL:=ik.lt hrK
 have X:=kL hG E hrL
 simp(disch:=omega)only[go_sem,H.aF gP,d1,cS]
 refine (TL a.rep z n (L.getD r []) hh n0 (by omega) X (k1.rep.si.mono F0)).mono ?_
 rintro _ h2 ⟨v6,rfl,s6,f2⟩
 have F2:=F.trans f2
 have gP2:h2.get P=bX [aB n,vO,vR,vL,.sl S 0 w (.kn w),vM]:=by rw[f2.get P (by omega)];exact gP
 have hG2:G (zp n (L.getD r []) z):=Xj hG (zD E hrL) _
 simp(disch:=omega)only[go_sem,H.aF gP2]
 have fbm:Fr h2 (H.mk h2.tr (h2.next+12)):=(Fr.refl h2).bF (by omega)
 refine (Sc vL v6 n L _ _ (by omega) (by omega) (λg hg=>hG.fA ((E.mem g).1 hg)) (hG.fA hG2) E.asc (((sL.mono f1).mono F2).mono fbm) (s6.mono fbm)).mono ?_
 rintro _ h3 ⟨hix,f3⟩
 have F3:=F2.trans (fbm.trans f3)
 have gP3:h3.get P=bX [aB n,vO,vR,vL,.sl S 0 w (.kn w),vM]:=by rw[(fbm.trans f3).get P (by have:=f2.next;omega)];exact gP2
 rcases hix with ⟨j,rfl,hj,ej⟩|⟨hno,_⟩
 case inr=>exact absurd ((E.mem _).2 hG2) hno
 have cj:=cM h3 (f1.trans F3) j hj
 have enu:(sV G L K).getD j 0=rH n G L K z r:=by
  rw[BJ];have h1:=Vt E hG2;rw[Qh E.nodup h1.1 hj (h1.2.trans ej.symm)];simp [sV,hj]
 rw[enu] at cj
 have hpw:=RW hG E ik z hrK
 obtain⟨c,ec⟩:=exI (rH n G L K z r)
 rw[ec] at cj hpw
 obtain⟨hc,ehc⟩: ∃hc:H,hc=H.mk ((H.mk h3.tr (h2.next+9)).new (.cells false [aB c])).tr h3.next:=⟨_,rfl⟩
 have n3:=f3.next
 have n3':h2.next+12<=h3.next:=n3
 have nc:hc.next=h3.next:=by rw[ehc]
 have gc':hc.get (h2.next+9)=bX [aB c]:=by rw[ehc];exact H.aN (H.mk h3.tr (h2.next+9)) _
 have oc: ∀q,q≠h2.next+9->hc.get q=h3.get q:=λq hq=>by rw[ehc];exact H.bU (H.mk h3.tr (h2.next+9)) hq _
 have fc:Fr h2 hc:=⟨by omega,λq hq=>by rw[oc q (by omega)];exact (fbm.trans f3).get q hq⟩
 obtain⟨hd,ad,pd⟩:=(ow.fr (f2.trans fc)).push (bytes:=8) (SV.one (v:= aB c) (id:=h2.next+9) (by omega) gc' (.kn 1)) (n:=i) (m:=1) (by rw[eU];omega) rfl (by omega) (by omega) (by omega)
 have nd:=pd.next
 simp(disch:=omega)only[go_sem,H.aF gP3,shM.ixa,cj,eM,dB _ (z:= aB 0) (v:= aB c) rfl rfl,←ehc,ad]
 rw[fJ i]
 have n2:=f2.next
 have t:=pd.own (b:=h1.next) (by rw[eU];omega) rfl (by omega)
 refine⟨w-(i+1),by omega,i+1,_,aA rfl,by omega,?_,⟨by omega,λq hq=>?_⟩,rfl⟩
 ·have e:(rc (i+1) λk=>aB (rH n G L K z (K.getD k 0):Nat))=(rc i λk=>aB (rH n G L K z (K.getD k 0):Nat))++ [aB c]:=by
   unfold rc;rw[List.range_succ,List.map_append,List.map_cons,List.map_nil,Pm.bJ (show i<K.length by omega),hr,ec]
  rw[e];exact t
 ·rw[pd.old q (by omega) (λid off n' cp e e2=>by have:=(ow.in _ _ _ _ e).2.1;omega),fc.get q (by omega),f2.get q (by omega)]
  exact F.get q hq
set_option maxHeartbeats 8000000
theorem Wb (vc vz:V)(d:Int)(O:List (List Int))(R:List (List (List Int)))(h:H)(hc:Ei h vc d O R)(hd:d<=7∨64<d)(so:kN O)(sr:kS R)(hb:jC d O R≠0):
  Ev T 13 [vc,vz] h (λv h'=>v= .tup [.aC,aB (jC d O R)]/\Fr h h'):=by
 have hc0:=hc
 obtain⟨vO,vR,rfl,sO,sR⟩:=hc
 refine bP mP rfl rfl ?_
 have oneO:vO.one=true:=Gy sO
 have oneR:vR.one=true:=Gm sR
 obtain⟨B,hB⟩:=exI h.next
 obtain⟨h1,e1,n1,g1,o1,f1⟩:=fR hB [aB d,vO,vR]
 have bx:=bM h (v:= aB d) (u:=vO) (w:=vR) rfl oneO oneR
 simp(disch:=omega)only[go_sem,mP,aE,bx,hB,e1,aU g1]
 refine (Fy _ d O R h1 (hc0.mono f1) hd so sr hb).mono ?_
 rintro _ h2 ⟨rfl,f2⟩
 obtain⟨P,hP⟩:=exI h2.next
 obtain⟨h3,e3,n3,g3,o3,f3⟩:=fR hP [aB 0,.aC,.aC,.aC,.aC,.aC]
 obtain⟨h4,e4,n4,g4,o4⟩:=xX h3 P [aB 0,.aC,.aC,.aC,.aC,.aC]
 have F:Fr h h4:=(f1.trans f2).trans ⟨by omega,λq hq=>by rw[o4 q (by omega),o3 q (by omega)]⟩
 have d1:decide (jC d O R≠0)=true:=decide_eq_true hb
 simp(disch:=omega)only[go_sem,hP,e3,rZ h3 P (a:= aB 0) (b:= .aC) (c:= .aC) (d:= .aC) (e:= .aC) (f:= .aC) rfl rfl rfl rfl rfl rfl,g3,oY,e4,d1]
 exact F
theorem EI {W:Nat->Prop}(vc:V)(z:Int)(n:Nat)(O:LN)(R:oJ)(G:List Nat->Prop)(h:H)(hz: -9223372036854775808<=z/\z<9223372036854775808)(gc:GC W h vc n O R G)(L:LN)(hL:cK O R n 0 (cJ n)=L):
  Ev T 13 [vc,aB z] h (λv h'=> ∃K vl,Ck n G L K/\v= .tup [vl,aB 0]/\SV h' vl 1 (rc K.length λk=> aB (rH n G L K z (K.getD k 0):Nat))/\Fr h h'):=by
 have gc0:=gc
 obtain⟨vO,vR,rfl,sO,sR⟩:=gc.ch
 refine bP mP rfl rfl ?_
 have oneO:vO.one=true:=Gy sO
 have oneR:vR.one=true:=Gm sR
 have n7:=gc.n7
 have n0:=gc.n0
 have hG:=gc.mI
 obtain⟨E,ll⟩:=fE gc.mI gc.isc
 have ll5:=kE gc
 rw[hL] at E ll
 obtain⟨B,hB⟩:=exI h.next
 obtain⟨h1,e1,n1,g1,o1,f1⟩:=fR hB [aB n,vO,vR]
 have bx:=bM h (v:= aB n) (u:=vO) (w:=vR) rfl oneO oneR
 simp(disch:=omega)only[go_sem,mP,aE,bx,hB,e1,aU g1]
 refine (Hu _ n O R G h1 (gc0.mono f1) L hL).mono ?_
 rintro _ h2 ⟨vO',vR',K,vg,ee,rfl,ik,rd,f2⟩
 cases ee
 obtain⟨vL,S,ks,vM,rfl,oneL,oneM,hbS,nS,gS,lks,al,sL,sM⟩:=rd.open
 obtain⟨P,hP⟩:=exI h2.next
 obtain⟨h3,e3,n3,g3,o3,f3⟩:=fR hP [aB 0,.aC,.aC,.aC,.aC,.aC]
 obtain⟨h4,e4,n4,g4,o4⟩:=xX h3 P [aB n,vO,vR,vL,.sl S 0 K.length (.kn K.length),vM]
 have f24:Fr h2 h4:=⟨by omega,λq hq=>by rw[o4 q (by omega),o3 q (by omega)]⟩
 have F4:=(f1.trans f2).trans f24
 have g14:h4.get B=bX [aB n,vO,vR]:=by rw[f24.get _ (by have:=f2.next;omega),f2.get _ (by omega)];exact g1
 simp(disch:=omega)only[go_sem,hP,e3,rZ h3 P (a:= aB n) (b:=vO) (c:=vR) (d:=vL) (e:= .sl S 0 K.length (.kn K.length)) (f:=vM) rfl oneO oneR oneL rfl oneM,g3,oY,e4]
 have hKL:K.length<=5040:=by
  rw[ik.perm.length_eq];unfold cE;exact Nat.le_trans (List.length_filter_le _ _) (by rw[List.length_range];omega)
 refine aY (λhc=>(hc rfl).elim) (λ_=>?_)
 simp(disch:=omega)only[go_sem,Da g4]
 refine (Kb n G L K h1.next vO vR _ z h4 n0 n7 hG E (by omega) ik hz oneO oneR (rd.fr f24)).mono ?_
 rintro vl h5 ⟨s5,f5⟩
 simp(disch:=omega)only[go_sem]
 exact⟨K,vl,ik,rfl,s5,F4.trans f5⟩
theorem JQ {a c t:Nat}(ha:0<a)(hc:0<c)(h1:1<=t)(h2:t<=c/Nat.gcd a c):a*t%c=0↔t=c/Nat.gcd a c:=by
 have g0:0<Nat.gcd a c:=Nat.gcd_pos_of_pos_left c ha;obtain⟨a',ea⟩:=Nat.gcd_dvd_left a c;obtain⟨c',ec⟩:=Nat.gcd_dvd_right a c;have hcop:=Nat.coprime_div_gcd_div_gcd g0;generalize Nat.gcd a c=g at*;have e1:a/g=a':=by rw[ea,Nat.mul_div_cancel_left _ g0]
 have e2:c/g=c':=by rw[ec,Nat.mul_div_cancel_left _ g0]
 rw[e1,e2] at hcop;rw[e2] at h2 ⊢;rw[←Nat.dvd_iff_mod_eq_zero];constructor
 ·intro h
  rw[ea,ec,Nat.mul_assoc] at h;have h3:c'∣a'*t:=Nat.dvd_of_mul_dvd_mul_left g0 h;have h4:c'∣t:=hcop.symm.dvd_of_dvd_mul_left h3;have:=Nat.le_of_dvd (by omega) h4;omega
 ·rintro rfl
  exact⟨a',by rw[ea,ec,Nat.mul_assoc,Nat.mul_comm a' t,←Nat.mul_assoc,Nat.mul_comm g t]⟩
theorem Zu {a c:Nat}:a*(c/Nat.gcd a c)=a/Nat.gcd a c*c:=by
 obtain⟨a',ea⟩:=Nat.gcd_dvd_left a c;obtain⟨c',ec⟩:=Nat.gcd_dvd_right a c;rcases Nat.eq_zero_or_pos (Nat.gcd a c) with h|g0
 ·rw[h];simp
 generalize Nat.gcd a c=g at*;rw[ea,ec,Nat.mul_div_cancel_left _ g0,Nat.mul_div_cancel_left _ g0,Nat.mul_assoc,Nat.mul_left_comm]
set_option maxHeartbeats 16000000
theorem KK (vc:V)(d:Int)(O:List (List Int))(R:List (List (List Int)))(h:H)(hc:Ei h vc d O R)(hd:d<=7∨64<d)(so:kN O)(sr:kS R)(hb:jC d O R≠0):
  Ev T 15 [vc] h (λv h'=>v= .tup [aB 0,aB (jC d O R)]/\Fr h h'):=by
 have hc0:=hc
 obtain⟨vO,vR,rfl,sO,sR⟩:=hc
 refine bP jX rfl rfl ?_
 have oneO:vO.one=true:=Gy sO
 have oneR:vR.one=true:=Gm sR
 obtain⟨B,hB⟩:=exI h.next
 obtain⟨h1,e1,n1,g1,o1,f1⟩:=fR hB [aB d,vO,vR]
 have bx:=bM h (v:= aB d) (u:=vO) (w:=vR) rfl oneO oneR
 simp(disch:=omega)only[go_sem,jX,aE,bx,hB,e1,aU g1]
 refine (Fy _ d O R h1 (hc0.mono f1) hd so sr hb).mono ?_
 rintro _ h2 ⟨rfl,f2⟩
 obtain⟨P,hP⟩:=exI h2.next
 obtain⟨h3,e3,n3,g3,o3,f3⟩:=fR hP [aB 0,.aC,.aC,.aC,.aC,.aC]
 obtain⟨h4,e4,n4,g4,o4⟩:=xX h3 P [aB 0,.aC,.aC,.aC,.aC,.aC]
 have F:Fr h h4:=(f1.trans f2).trans ⟨by omega,λq hq=>by rw[o4 q (by omega),o3 q (by omega)]⟩
 have d1:decide (jC d O R≠0)=true:=decide_eq_true hb
 simp(disch:=omega)only[go_sem,hP,e3,rZ h3 P (a:= aB 0) (b:= .aC) (c:= .aC) (d:= .aC) (e:= .aC) (f:= .aC) rfl rfl rfl rfl rfl rfl,g3,oY,e4,d1]
 exact F
theorem QL {W:Nat->Prop}(vc:V)(n:Nat)(O:LN)(R:oJ)(G:List Nat->Prop)(h:H)(gc:GC W h vc n O R G)(L:LN)(hL:cK O R n 0 (cJ n)=L):
  Ev T 15 [vc] h (λv h'=> ∃K,Ck n G L K/\v= .tup [aB (DF n L K:Nat),aB 0]/\Fr h h'):=by
 have gc0:=gc
 obtain⟨vO,vR,rfl,sO,sR⟩:=gc.ch
 refine bP jX rfl rfl ?_
 have oneO:vO.one=true:=Gy sO
 have oneR:vR.one=true:=Gm sR
 have n7:=gc.n7
 have n0:=gc.n0
 have hG:=gc.mI
 obtain⟨E,ll⟩:=fE gc.mI gc.isc
 have ll5:=kE gc
 rw[hL] at E ll
 obtain⟨B,hB⟩:=exI h.next
 obtain⟨h1,e1,n1,g1,o1,f1⟩:=fR hB [aB n,vO,vR]
 have bx:=bM h (v:= aB n) (u:=vO) (w:=vR) rfl oneO oneR
 simp(disch:=omega)only[go_sem,jX,aE,bx,hB,e1,aU g1]
 refine (Hu _ n O R G h1 (gc0.mono f1) L hL).mono ?_
 rintro _ h2 ⟨vO',vR',K,vg,ee,rfl,ik,rd,f2⟩
 cases ee
 obtain⟨vL,S,ks,vM,rfl,oneL,oneM,hbS,nS,gS,lks,al,sL,sM⟩:=rd.open
 obtain⟨P,hP⟩:=exI h2.next
 obtain⟨h3,e3,n3,g3,o3,f3⟩:=fR hP [aB 0,.aC,.aC,.aC,.aC,.aC]
 obtain⟨h4,e4,n4,g4,o4⟩:=xX h3 P [aB n,vO,vR,vL,.sl S 0 K.length (.kn K.length),vM]
 have f24:Fr h2 h4:=⟨by omega,λq hq=>by rw[o4 q (by omega),o3 q (by omega)]⟩
 have F4:=(f1.trans f2).trans f24
 have g14:h4.get B=bX [aB n,vO,vR]:=by rw[f24.get _ (by have:=f2.next;omega),f2.get _ (by omega)];exact g1
 simp(disch:=omega)only[go_sem,hP,e3,rZ h3 P (a:= aB n) (b:=vO) (c:=vR) (d:=vL) (e:= .sl S 0 K.length (.kn K.length)) (f:=vM) rfl oneO oneR oneL rfl oneM,g3,oY,e4]
 have hKL:K.length<=5040:=by
  rw[ik.perm.length_eq];unfold cE;exact Nat.le_trans (List.length_filter_le _ _) (by rw[List.length_range];omega)
 obtain⟨W,hW⟩:=exI ((K.map λr=>fM (L.getD r []) n))
 have hWl:W.length=K.length:=by rw[←hW,lW]
 have hWd: ∀c∈W,c∣420:=λc hc=>by
  rw[←hW] at hc;obtain⟨r,hr,rfl⟩:=xU.1 hc;exact Cj (kL gc0.mI E (lB.1 (ik.perm.mem_iff.1 hr)).1) gc0.n7
 have hpre: ∀k,jS (W.take k)<=420/\0<jS (W.take k):=λk=>by
  have h1:jS (W.take k)∣420:=(qU _ _).2 λc hc=>hWd c (List.mem_of_mem_take hc)
  exact⟨Nat.le_of_dvd (by omega) h1,Nat.pos_of_dvd_of_pos h1 (by omega)⟩
 obtain⟨w,hw⟩:=exI K.length
 rw[hw] at lks hWl hKL g4
 refine aY (λhc=>(hc rfl).elim) (λ_=>?_)
 simp(disch:=omega)only[go_sem]
 refine aG (λk' vars hh=> ∃(i:Nat),(∃g:Nat->V,vars= [g 0,g 1,g 2,g 3,.ptr P 0,g 5,aB (jS (W.take i):Nat),aB i,g 8,g 9,g 10,g 11])/\i<=w/\Fr h4 hh/\k'=w-i) w
  ⟨0,aA rfl,iP _,Fr.refl _,rfl⟩ ?_
 rintro k' vars hh ⟨i,⟨g,rfl⟩,hi,F,rfl⟩
 have c4: ∀hx,Fr h4 hx->hx.cell P 4=some (.sl S 0 w (.kn w)):=λhx f=>by rw[f.cell (by omega),H.aF g4];rfl
 by_cases hlt:(i:Int)<(w:Int)
 case neg=>
  have d1:=fF hlt;obtain rfl:i=w:=by omega
  simp(disch:=omega)only[go_sem,c4 hh F,d1];refine⟨K,ik,?_,F4.trans F⟩;rw[List.take_of_length_le (by omega)];unfold DF;rw[hW]
 have d1:=iK hlt
 have hiw:i<w:=by omega
 have k1:=aZ.get al i (by omega) (by omega)
 obtain⟨_,p2,_⟩:=yL (ks:=ks) (i:=i) (by omega)
 obtain⟨c,hc⟩:=exI (W.getD i 0)
 have hcm:c∈W:=by rw[←hc];exact bD (by omega)
 have hc420:=hWd c hcm
 have hc0:0<c:=Nat.pos_of_dvd_of_pos hc420 (by omega)
 have hc1:c<=420:=Nat.le_of_dvd (by omega) hc420
 have hco:(ks[i]'(by omega)).ord=c:=by
  have hiK:i<K.length:=by omega
  rw[k1.ord,←hc];simp [List.getD,←hW,hiK]
 have cS: ∀hx,Fr h4 hx->hx.cell S (i*3+1)=some (aB c):=λhx f=>by rw[f.cell (by omega),f24.cell nS,H.aF gS,←hco];exact p2
 have step:=Tp (l:=W) (k:=i) (by omega)
 rw[hc] at step
 obtain⟨a1,a0⟩:=hpre i
 have hs1:=(hpre (i+1)).1
 rw[step,←Zu] at hs1
 obtain⟨a,ha⟩:=exI (jS (W.take i))
 rw[ha] at step a1 a0 hs1 ⊢
 rw[←Zu] at step
 have hT1:1<=c/Nat.gcd a c:=Nat.div_pos (Nat.le_of_dvd hc0 (Nat.gcd_dvd_right a c)) (Nat.gcd_pos_of_pos_left c a0)
 obtain⟨T0,hT0⟩:=exI (c/Nat.gcd a c)
 have wk:=λt h1 h2=>JQ (t:=t) a0 hc0 h1 h2
 rw[hT0] at step hs1 hT1 wk
 simp(disch:=omega)only[go_sem,c4 hh F,d1]
 refine aG (λk' vars hx=> ∃(t:Nat),(∃g:Nat->V,vars= [g 0,g 1,g 2,g 3,.ptr P 0,g 5,aB a,aB i,aB (a*t:Nat),g 9,g 10,g 11])/\1<=t/\t<=T0/\Fr h4 hx/\k'=T0-t) (T0- 1)
  ⟨1,by rw[Nat.mul_one];exact aA rfl,gV _,hT1,F,rfl⟩ ?_
 clear F
 rintro k' vars hx ⟨t,⟨g,rfl⟩,ht1,ht,F,rfl⟩
 have hat:a*t<=a*T0:=Nat.mul_le_mul_left _ ht
 have em:((a*t:Nat):Int).tmod (c:Int)=((a*t%c:Nat):Int):=by rw[Int.tmod_eq_emod_of_nonneg (by omega)];rfl
 have hcz:(c:Int)≠0:=by omega
 obtain⟨QF,hat'⟩: ∃q,a*t=q:=⟨_,rfl⟩
 have wt:=wk t ht1 ht
 rw[hat'] at hat em wt ⊢
 by_cases hm:QF%c=0
 ·have d2:decide (((QF%c:Nat):Int)≠0)=false:=fF (by omega)
  simp(disch:=omega)only[go_sem,c4 hx F,cS hx F,hcz,em,d2]
  have e:=wt.1 hm
  rw[fJ i]
  refine⟨w-(i+1),by omega,i+1,?_,by omega,F,rfl⟩
  rw[step,←e,hat']
  exact aA rfl
 ·have d2:decide (((QF%c:Nat):Int)≠0)=true:=iK (by omega)
  have htT:t<T0:=by
   rcases Nat.lt_or_ge t T0 with h|h
   ·exact h
   ·exact absurd (wt.2 (by omega)) hm
  have hs:a*(t+1)=QF+a:=by rw[Nat.mul_succ,hat']
  have hle:a*(t+1)<=a*T0:=Nat.mul_le_mul_left _ htT
  simp(disch:=omega)only[go_sem,c4 hx F,cS hx F,hcz,em,d2,show (QF:Int)+(a:Int)=((QF+a:Nat):Int) from rfl]
  refine⟨T0-(t+1),by omega,t+1,?_,by omega,by omega,F,rfl⟩
  rw[hs]
  exact aA rfl
theorem ZG {n:Nat}{x:List Nat}(X:bY n x):zp n x (-1)=eX x:=by
 have o0:=vH X
 obtain⟨o,ho⟩: ∃o,fM x n=o+1:=⟨fM x n- 1,by omega⟩
 have e:zp n x (-1)=pw n x o:=aaD X (by
  rw[ho]
  have h1:((-1:Int)%((o+1:Nat):Int))=(o:Int):=by
   rw[show (-1:Int)=(o:Int)+((o+1:Nat):Int)*(-1) by omega,Int.add_mul_emod_self_left];exact Int.emod_eq_of_lt (by omega) (by omega)
  rw[h1]
  exact Int.emod_eq_of_lt (by omega) (by omega))
 have h2:bE (pw n x o) x=cJ n:=(tH X (o+1)).1 (by rw[ho];exact Nat.dvd_refl _);have Y:=lJ X o;rw[e,←cV Y,←jE X,←bG Y X X.inv,h2,fQ X.inv]
theorem JU {n:Nat}{G:List Nat->Prop}{L:LN}{K:List Nat}(hG:tP n G)(E:iR G L)(ik:Ck n G L K){k:Nat}(hk:k<K.length):rH n G L K (-1) (K.getD k 0)=k↔lZ G L (K.getD k 0)=true:=by
 have hr:=ik.lt (bD (d:=0) hk);have X:=kL hG E hr;have hx:=zD E hr;obtain⟨h1,h2⟩:=Vt E (hG.inv hx);rw[BJ,ZG X,Rw hG E ik.perm hk h1];unfold lZ cR;rw[h2];simp only[decide_eq_true_eq]
set_option maxHeartbeats 16000000
theorem FB (vc:V)(d:Int)(O:List (List Int))(R:List (List (List Int)))(h:H)(hc:Ei h vc d O R)(hd:d<=7∨64<d)(so:kN O)(sr:kS R)(hb:jC d O R≠0):
  Ev T 17 [vc] h (λv h'=>v= .tup [.aC,aB (jC d O R)]/\Fr h h'):=by
 have hc0:=hc
 obtain⟨vO,vR,rfl,sO,sR⟩:=hc
 refine bP pH rfl rfl ?_
 have oneO:vO.one=true:=Gy sO
 have oneR:vR.one=true:=Gm sR
 obtain⟨B,hB⟩:=exI h.next
 obtain⟨h1,e1,n1,g1,o1,f1⟩:=fR hB [aB d,vO,vR]
 have bx:=bM h (v:= aB d) (u:=vO) (w:=vR) rfl oneO oneR
 simp(disch:=omega)only[go_sem,pH,aE,bx,hB,e1,aU g1]
 refine (Fy _ d O R h1 (hc0.mono f1) hd so sr hb).mono ?_
 rintro _ h2 ⟨rfl,f2⟩
 obtain⟨P,hP⟩:=exI h2.next
 obtain⟨h3,e3,n3,g3,o3,f3⟩:=fR hP [aB 0,.aC,.aC,.aC,.aC,.aC]
 obtain⟨h4,e4,n4,g4,o4⟩:=xX h3 P [aB 0,.aC,.aC,.aC,.aC,.aC]
 have F:Fr h h4:=(f1.trans f2).trans ⟨by omega,λq hq=>by rw[o4 q (by omega),o3 q (by omega)]⟩
 have d1:decide (jC d O R≠0)=true:=decide_eq_true hb
 simp(disch:=omega)only[go_sem,hP,e3,rZ h3 P (a:= aB 0) (b:= .aC) (c:= .aC) (d:= .aC) (e:= .aC) (f:= .aC) rfl rfl rfl rfl rfl rfl,g3,oY,e4,d1]
 exact F
theorem PC {W:Nat->Prop}(vc:V)(n:Nat)(O:LN)(R:oJ)(G:List Nat->Prop)(h:H)(gc:GC W h vc n O R G)(L:LN)(hL:cK O R n 0 (cJ n)=L):
  Ev T 17 [vc] h (λv h'=> ∃K vl,Ck n G L K/\v= .tup [vl,aB 0]/\SV h' vl 1 (rc K.length λk=> .bool (lZ G L (K.getD k 0)))/\Fr h h'):=by
 have gc0:=gc
 obtain⟨vO,vR,rfl,sO,sR⟩:=gc.ch
 refine bP pH rfl rfl ?_
 have oneO:vO.one=true:=Gy sO
 have oneR:vR.one=true:=Gm sR
 have n7:=gc.n7
 have n0:=gc.n0
 have hG:=gc.mI
 obtain⟨E,ll⟩:=fE gc.mI gc.isc
 have ll5:=kE gc
 rw[hL] at E ll
 obtain⟨B,hB⟩:=exI h.next
 obtain⟨h1,e1,n1,g1,o1,f1⟩:=fR hB [aB n,vO,vR]
 have bx:=bM h (v:= aB n) (u:=vO) (w:=vR) rfl oneO oneR
 simp(disch:=omega)only[go_sem,pH,aE,bx,hB,e1,aU g1]
 refine (Hu _ n O R G h1 (gc0.mono f1) L hL).mono ?_
 rintro _ h2 ⟨vO',vR',K,vg,ee,rfl,ik,rd,f2⟩
 cases ee
 obtain⟨vL,S,ks,vM,rfl,oneL,oneM,hbS,nS,gS,lks,al,sL,sM⟩:=rd.open
 obtain⟨P,hP⟩:=exI h2.next
 obtain⟨h3,e3,n3,g3,o3,f3⟩:=fR hP [aB 0,.aC,.aC,.aC,.aC,.aC]
 obtain⟨h4,e4,n4,g4,o4⟩:=xX h3 P [aB n,vO,vR,vL,.sl S 0 K.length (.kn K.length),vM]
 have f24:Fr h2 h4:=⟨by omega,λq hq=>by rw[o4 q (by omega),o3 q (by omega)]⟩
 have F4:=(f1.trans f2).trans f24
 have g14:h4.get B=bX [aB n,vO,vR]:=by rw[f24.get _ (by have:=f2.next;omega),f2.get _ (by omega)];exact g1
 simp(disch:=omega)only[go_sem,hP,e3,rZ h3 P (a:= aB n) (b:=vO) (c:=vR) (d:=vL) (e:= .sl S 0 K.length (.kn K.length)) (f:=vM) rfl oneO oneR oneL rfl oneM,g3,oY,e4]
 have hKL:K.length<=5040:=by
  rw[ik.perm.length_eq];unfold cE;exact Nat.le_trans (List.length_filter_le _ _) (by rw[List.length_range];omega)
 obtain⟨w,hw⟩:=exI K.length
 have hwL:w<=5040:=by omega
 refine aY (λhc=>(hc rfl).elim) (λ_=>?_)
 simp(disch:=omega)only[go_sem,Da g4]
 refine (Kb n G L K h1.next vO vR _ (-1) h4 n0 n7 hG E (by omega) ik (by omega) oneO oneR (rd.fr f24)).mono ?_
 rintro v6 h5 ⟨s5,f5⟩
 rw[hw] at s5
 obtain⟨lv,_,id,off,sh,c5⟩:=HO s5
 simp(disch:=omega)only[go_sem]
 refine aG (λk' vars hh=> ∃(i:Nat) (vo:V),(∃g:Nat->V,vars= [g 0,g 1,g 2,g 3,g 4,g 5,v6,vo,aB i,g 9,g 10])/\i<=w/\dG hh vo 1 (rc i λk=> .bool (lZ G L (K.getD k 0))) h5.next/\Fr h5 hh/\k'=w-i) w
  ⟨0,.aC,aA rfl,iP _,dG.aC _ _ _,Fr.refl _,rfl⟩ ?_
 rintro k' vars hh ⟨i,vo,⟨g,rfl⟩,hi,ow,F,rfl⟩
 by_cases hlt:(i:Int)<(w:Int)
 case neg=>
  have d1:=fF hlt;obtain rfl:i=w:=by omega
  simp(disch:=omega)only[go_sem,lv,d1];exact⟨K,vo,ik,rfl,by rw[hw];exact ow.sv,F4.trans (f5.trans F)⟩
 have d1:=iK hlt
 have hiw:i<w:=by omega
 have ci:hh.cell id (off+i)=some (aB (rH n G L K (-1) (K.getD i 0):Nat)):=by rw[F.cell (c5 i hiw).1];exact (c5 i hiw).2
 have pr:=JU hG E ik (k:=i) (by omega)
 obtain⟨c,hc⟩:=exI (rH n G L K (-1) (K.getD i 0))
 rw[hc] at ci pr
 obtain⟨b,hb⟩:=exI (lZ G L (K.getD i 0))
 have d2:decide ((c:Int)=(i:Int))=b:=by
  rw[←hb,Bool.eq_iff_iff,←pr,decide_eq_true_iff];omega
 obtain⟨h6,e6,n6,g6,o6,f6⟩:=fR (h:=hh) rfl [.bool b]
 obtain⟨h7,a7,p7⟩:=(ow.fr f6).push (bytes:=1) (SV.one (v:= .bool b) (id:=hh.next) (by omega) g6 (.kn 1)) (n:=i) (m:=1) (by rw[eU];omega) rfl (by omega) (by omega) (by omega)
 have n7':=p7.next
 simp(disch:=omega)only[go_sem,lv,d1,sh.ixa,ci,d2,dB _ (z:= .bool false) (v:= .bool b) rfl rfl,e6,a7]
 rw[fJ i]
 have nF:=F.next
 have t:=p7.own (b:=h5.next) (by rw[eU];omega) rfl (by omega)
 refine⟨w-(i+1),by omega,i+1,_,aA rfl,by omega,?_,⟨by omega,λq hq=>?_⟩,rfl⟩
 ·have e:(rc (i+1) λk=>V.bool (lZ G L (K.getD k 0)))=(rc i λk=>V.bool (lZ G L (K.getD k 0)))++ [.bool b]:=by
   unfold rc;rw[List.range_succ,List.map_append,List.map_cons,List.map_nil,hb]
  rw[e];exact t
 ·rw[p7.old q (by omega) (λid off n' cp e e2=>by have:=(ow.in _ _ _ _ e).2.1;omega),o6 q (by omega)]
  exact F.get q hq
theorem aaL {h:H}{vc:V}{d:Int}{O:List (List Int)}{R:List (List (List Int))}(hc:Ei h vc d O R)(hd:d<=7∨64<d)(h0:jC d O R=0):
  ∃(n:Nat) (O':LN) (R':oJ),d=(n:Int)/\O=O'.map zi/\R=R'.map (List.map zi)/\GC (λ_=>False) h vc n O' R' (Li n R'):=by
 unfold jC at h0
 split at h0
 ·cases h0
 ·split at h0
  ·rename_i hn hp
   obtain⟨n,O',R',rfl,h1,h2,rfl,rfl,v⟩:=hp
   obtain⟨vO,vR,rfl,sO,sR⟩:=hc
   obtain⟨wO,tO,aO⟩:=sO
   obtain⟨wR,tR,aR,kR⟩:=sR
   have off: ∀v:V,Wj (λ_=>False) v:=λv=>by cases v<;>first|exact id|trivial
   have all: ∀{ws:List V} {l:LN},aZ (SI h) ws (l.map zi)->gG (λ_=>False) h ws l:=λ{ws l} a=>by
    have hl:=aZ.length a;rw[lW] at hl
    refine aZ.nM hl λi hi hj=>⟨?_,off _⟩
    have:=aZ.get a i hi (by rw[lW];exact hj);rwa [List.getElem_map] at this
   refine⟨n,O',R',rfl,rfl,rfl,⟨vO,vR,wO,wR,rfl,tO,off _,all aO,tR,off _,?_⟩,v.2,v.mI,h1,by omega⟩
   have hl:=aZ.length aR
   rw[lW] at hl
   refine aZ.nM hl λi hi hj=>?_
   have:=aZ.get aR i hi (by rw[lW];exact hj)
   rw[List.getElem_map] at this
   obtain⟨ws,s,a⟩:=this
   exact⟨ws,s,off _,all a,kR _ (List.getElem_mem _)⟩
  ·cases h0
structure Sml (d:Int)(O:List (List Int))(R:List (List (List Int))):Prop where
 deg:d<=6∨64<d
 lo:O.length<=12
 lr:R.length<=12
 ro: ∀i,i<O.length->(O.getD i []).length<=12
 rr: ∀i,i<R.length->(R.getD i []).length<=12/\ ∀k,k<(R.getD i []).length->((R.getD i []).getD k []).length<=12
theorem Sml.small {d:Int}{O:List (List Int)}{R:List (List (List Int))}(s:Sml d O R):kN O/\kS R:=
 ⟨⟨by have:=s.lo;omega,λi hi=>by have:=s.ro i hi;omega⟩,⟨by have:=s.lr;omega,λi hi=>⟨by have:=(s.rr i hi).1;omega,λk hk=>by have:=(s.rr i hi).2 k hk;omega⟩⟩⟩
theorem RK (vc:V)(d:Int)(O:List (List Int))(R:List (List (List Int)))(h:H)(hc:Ei h vc d O R):
  Ev T 10 [vc] h (λv h'=>(v= .bool true∨v= .bool false/\Sml d O R)/\Fr h h'):=by
 obtain⟨vO,vR,rfl,sO,sR⟩:=hc
 refine bP mT rfl rfl ?_
 obtain⟨lO,evO,_,oneO,idO,offO,wsO,shO,cO⟩:=xI sO
 obtain⟨lR,evR,_,oneR,idR,offR,wsR,shR,cR⟩:=Cm sR
 obtain⟨B,hB⟩:=exI h.next
 obtain⟨h1,e1,n1,g1,o1,f1⟩:=fR hB [aB d,vO,vR]
 have c0: ∀hh,Fr h1 hh->hh.cell B 0=some (aB d):=λhh f=>by rw[f.cell (by omega),H.aF g1];rfl
 have c1: ∀hh,Fr h1 hh->hh.cell B 1=some vO:=λhh f=>by rw[f.cell (by omega),H.aF g1];rfl
 have c2: ∀hh,Fr h1 hh->hh.cell B 2=some vR:=λhh f=>by rw[f.cell (by omega),H.aF g1];rfl
 have bx:=bM h (v:= aB d) (u:=vO) (w:=vR) rfl oneO oneR
 have F0:=Fr.refl h1
 by_cases qA:6<d/\d<=64
 ·have y2:decide ((6:Int)<d)=true:=decide_eq_true qA.1
  have y3:decide (d<=64)=true:=decide_eq_true qA.2
  simp(disch:=omega)only[go_sem,mT,aE,bx,hB,e1,c0 h1 F0,y2,y3]
  exact⟨.inl trivial,f1⟩
 obtain⟨b2,y2⟩:=exI (decide ((6:Int)<d))
 obtain⟨b3,y3⟩:=exI (decide (d<=64))
 have hb:(b2&&b3)=false:=by
  rw[←y2,←y3,←Bool.not_eq_true,Bool.and_eq_true,decide_eq_true_iff,decide_eq_true_iff];exact qA
 have hdeg:d<=6∨64<d:=by omega
 by_cases q1:(12:Int)<(O.length:Int)
 ·have y1:decide ((12:Int)<(O.length:Int))=true:=decide_eq_true q1
  cases b2<;>cases b3<;>first|cases hb|skip
  all_goals
   simp(disch:=omega)only[go_sem,mT,aE,bx,hB,e1,c0 h1 F0,c1 h1 F0,lO,y2,y3,y1]
   exact⟨.inl trivial,f1⟩
 have y1:decide ((12:Int)<(O.length:Int))=false:=decide_eq_false q1
 by_cases q4:(12:Int)<(R.length:Int)
 ·have y4:decide ((12:Int)<(R.length:Int))=true:=decide_eq_true q4
  cases b2<;>cases b3<;>first|cases hb|skip
  all_goals
   simp(disch:=omega)only[go_sem,mT,aE,bx,hB,e1,c0 h1 F0,c1 h1 F0,lO,c2 h1 F0,lR,y2,y3,y1,y4]
   exact⟨.inl trivial,f1⟩
 have y4:decide ((12:Int)<(R.length:Int))=false:=decide_eq_false q4
 have lo12:O.length<=12:=by omega
 have lr12:R.length<=12:=by omega
 cases b2<;>cases b3<;>first|cases hb|skip
 all_goals
  simp(disch:=omega)only[go_sem,mT,aE,bx,hB,e1,c0 h1 F0,c1 h1 F0,lO,c2 h1 F0,lR,y2,y3,y1,y4]
  refine aG (λk' vars hh=> ∃(i:Nat),(∃g:Nat->V,vars= [g 0,.ptr B 0,g 2,aB i,g 4,g 5,g 6,g 7,g 8,g 9,g 10,g 11,g 12])/\i<=O.length/\(∀j,j<i->(O.getD j []).length<=12)/\Fr h1 hh/\k'=O.length-i) O.length
   ⟨0,aA rfl,iP _,λj hj=>by omega,Fr.refl _,rfl⟩ ?_
  rintro k' vars h2 ⟨i,⟨g,rfl⟩,hi,ho,F,rfl⟩
  by_cases hlt:(i:Int)<(O.length:Int)
  case pos=>
   have d1:=iK hlt;obtain⟨i1,ci,si⟩:=cO i (by omega);have cOi:h2.cell idO (offO+i)=some (wsO.getD i V.undef):=by rw[(f1.trans F).cell i1];exact ci
   have lo:=si.lens;generalize wsO.getD i V.undef=vo at cOi lo
   by_cases q5:(12:Int)<((O.getD i []).length:Int)
   ·have y5:decide ((12:Int)<((O.getD i []).length:Int))=true:=decide_eq_true q5
    simp(disch:=omega)only[go_sem,c1 h2 F,lO,d1,shO.ixa,cOi,lo,y5];exact⟨.inl trivial,f1.trans F⟩
   ·have y5:decide ((12:Int)<((O.getD i []).length:Int))=false:=decide_eq_false q5
    simp(disch:=omega)only[go_sem,c1 h2 F,lO,d1,shO.ixa,cOi,lo,y5];rw[fJ i]
    exact⟨O.length-(i+1),by omega,i+1,aA rfl,by omega,λj hj=>by
     by_cases e:j=i
     ·subst e;omega
     ·exact ho j (by omega),F,rfl⟩
  have d1:=fF hlt
  simp(disch:=omega)only[go_sem,c1 h2 F,lO,d1]
  refine aG (λk' vars hh=> ∃(i:Nat),(∃g:Nat->V,vars= [g 0,.ptr B 0,g 2,g 3,aB i,g 5,g 6,g 7,g 8,g 9,g 10,g 11,g 12])/\i<=R.length/\(∀j,j<i->(R.getD j []).length<=12/\ ∀k,k<(R.getD j []).length->((R.getD j []).getD k []).length<=12)/\Fr h1 hh/\k'=R.length-i) R.length
   ⟨0,aA rfl,iP _,λj hj=>by omega,F,rfl⟩ ?_
  clear F d1
  rintro k' vars h3 ⟨t,⟨g,rfl⟩,ht,hr,F,rfl⟩
  by_cases hlt2:(t:Int)<(R.length:Int)
  case neg=>
   have d1:=fF hlt2;simp(disch:=omega)only[go_sem,c2 h3 F,lR,d1];exact⟨.inr ⟨hdeg,lo12,lr12,λj hj=>ho j (by omega),λj hj=>hr j (by omega)⟩,f1.trans F⟩
  have d1:=iK hlt2
  obtain⟨i1,ci,si⟩:=cR t (by omega)
  have cRi: ∀hh,Fr h1 hh->hh.cell idR (offR+t)=some (wsR.getD t V.undef):=λhh f=>by rw[(f1.trans f).cell i1];exact ci
  generalize wsR.getD t V.undef=vr at cRi si
  obtain⟨lr,_,_,_,idr,offr,wsr,shr,cr⟩:=xI si
  by_cases q5:(12:Int)<((R.getD t []).length:Int)
  case pos=>
   have y5:decide ((12:Int)<((R.getD t []).length:Int))=true:=decide_eq_true q5;simp(disch:=omega)only[go_sem,c2 h3 F,lR,d1,shR.ixa,cRi h3 F,lr,y5];exact⟨.inl trivial,f1.trans F⟩
  have y5:decide ((12:Int)<((R.getD t []).length:Int))=false:=decide_eq_false q5
  simp(disch:=omega)only[go_sem,c2 h3 F,lR,d1,shR.ixa,cRi h3 F,lr,y5]
  refine aG (λk' vars hh=> ∃(k:Nat),(∃g:Nat->V,vars= [g 0,.ptr B 0,g 2,g 3,aB t,aB k,g 6,g 7,g 8,g 9,g 10,g 11,g 12])/\k<=(R.getD t []).length/\(∀j,j<k->((R.getD t []).getD j []).length<=12)/\Fr h1 hh/\k'=(R.getD t []).length-k) (R.getD t []).length
   ⟨0,aA rfl,iP _,λj hj=>by omega,F,rfl⟩ ?_
  clear F d1
  rintro k' vars h4 ⟨k,⟨g,rfl⟩,hk,hrk,F,rfl⟩
  by_cases hlk:(k:Int)<((R.getD t []).length:Int)
  case neg=>
   have d1:decide ((k:Int)<((R.getD t []).length:Int))=false:=decide_eq_false hlk;simp(disch:=omega)only[go_sem,c2 h4 F,shR.ixa,cRi h4 F,lr,d1];rw[fJ t]
   exact⟨R.length-(t+1),by omega,t+1,aA rfl,by omega,λj hj=>by
    by_cases e:j=t
    ·subst e;exact⟨by omega,λk' hk'=>hrk k' (by omega)⟩
    ·exact hr j (by omega),F,rfl⟩
  have d1:decide ((k:Int)<((R.getD t []).length:Int))=true:=decide_eq_true hlk
  obtain⟨k1,ck,sk⟩:=cr k (by omega)
  have cRk:h4.cell idr (offr+k)=some (wsr.getD k V.undef):=by rw[(f1.trans F).cell k1];exact ck
  generalize wsr.getD k V.undef=vx at cRk sk
  have lx:=sk.lens
  by_cases q6:(12:Int)<(((R.getD t []).getD k []).length:Int)
  case pos=>
   have y6:decide ((12:Int)<(((R.getD t []).getD k []).length:Int))=true:=decide_eq_true q6;simp(disch:=omega)only[go_sem,c2 h4 F,shR.ixa,cRi h4 F,lr,d1,shr.ixa,cRk,lx,y6];exact⟨.inl trivial,f1.trans F⟩
  have y6:decide ((12:Int)<(((R.getD t []).getD k []).length:Int))=false:=decide_eq_false q6
  simp(disch:=omega)only[go_sem,c2 h4 F,shR.ixa,cRi h4 F,lr,d1,shr.ixa,cRk,lx,y6]
  rw[fJ k]
  exact⟨(R.getD t []).length-(k+1),by omega,k+1,aA rfl,by omega,λj hj=>by
   by_cases e:j=k
   ·subst e;omega
   ·exact hrk j (by omega),F,rfl⟩
theorem AU.see {n:Nat}{G:List Nat->Prop}{L:LN}{W:Nat->Prop}{h:H}{a:Cls.KE}{r:Nat}(k:AU n G L W h a r):EV h a (zi (L.getD r []),fM (L.getD r []) n,(kF G L r).length):=⟨k.rep.si,k.ord,k.size⟩
theorem KR.see {n:Nat}{G:List Nat->Prop}{L:LN}{h:H}{a:Cls.KE}{r:Nat}(k:KR n G L h a r):EV h a (zi (L.getD r []),fM (L.getD r []) n,(kF G L r).length):=⟨k.rep,k.ord,k.size⟩
theorem CK (G:List Nat->Prop)(L:LN)(K:List Nat):(rc K.length λk=>V.bool (lZ G L (K.getD k 0)))=(K.map (lZ G L)).map V.bool:=by
 refine List.ext_getElem (by simp [rc]) λi h1 h2=>?_
 simp [rc];congr 1;rw[fX (by simpa using h2),Option.getD_some]
theorem JO (n:Nat)(G:List Nat->Prop)(L:LN)(K:List Nat)(z:Int):(rc K.length λk=>aB (rH n G L K z (K.getD k 0):Nat))=ints (zi (K.map (rH n G L K z))):=by
 refine List.ext_getElem (by simp [rc,ints,zi]) λi h1 h2=>?_
 have h3:i<K.length:=by simpa [rc] using h1
 simp [rc,ints,zi,h3]
theorem DC (vc:V)(z:Int)(d:Int)(O:List (List Int))(R:List (List (List Int)))(h:H)(hz: -9223372036854775808<=z/\z<9223372036854775808)(hc:Ei h vc d O R):
  Ev T 3 [vc,aB z] h (λv h'=>v= .bool true/\Fr h h'):=by
 have hc0:=hc
 obtain⟨vO,vR,rfl,sO,sR⟩:=hc
 refine bP lE rfl rfl ?_
 have oneO:vO.one=true:=Gy sO
 have oneR:vR.one=true:=Gm sR
 obtain⟨B,hB⟩:=exI h.next
 obtain⟨h1,e1,n1,g1,o1,f1⟩:=fR hB [aB d,vO,vR]
 have bx:=bM h (v:= aB d) (u:=vO) (w:=vR) rfl oneO oneR
 have rB: ∀hh,Fr h1 hh->hh.row B 0 3=some [aB d,vO,vR]:=λhh f=>aU (by rw[f.get B (by omega)];exact g1)
 simp(disch:=omega)only[go_sem,lE,aE,bx,hB,e1,rB h1 (Fr.refl _)]
 refine (RK _ d O R h1 (hc0.mono f1)).mono ?_
 rintro _ h2 ⟨hv,f2⟩
 rcases hv with rfl|⟨rfl,sm⟩
 ·simp(disch:=omega)only[go_sem]
  refine (Ix h2).mono ?_
  rintro _ h3 ⟨rfl,f3⟩
  simp(disch:=omega)only[go_sem]
  exact (f1.trans f2).trans f3
 obtain⟨so,sr⟩:=sm.small
 have hd:d<=7∨64<d:=by have:=sm.deg;omega
 by_cases hb:jC d O R=0
 case neg=>
  simp(disch:=omega)only[go_sem,rB h2 f2];refine (NU _ _ d O R h2 (hc0.mono (f1.trans f2)) hd so sr hb).mono ?_;rintro _ h3 ⟨rfl,f3⟩;have F3:=f2.trans f3;simp(disch:=omega)only[go_sem,rB h3 F3];refine (Wb _ _ d O R h3 (hc0.mono (f1.trans F3)) hd so sr hb).mono ?_;rintro _ h4 ⟨rfl,f4⟩;have F4:=F3.trans f4;simp(disch:=omega)only[go_sem,rB h4 F4];refine (KP _ d O R h4 (hc0.mono (f1.trans F4)) hd so sr hb).mono ?_;rintro _ h5 ⟨rfl,f5⟩;have F5:=F4.trans f5;simp(disch:=omega)only[go_sem,rB h5 F5];refine (KK _ d O R h5 (hc0.mono (f1.trans F5)) hd so sr hb).mono ?_;rintro _ h6 ⟨rfl,f6⟩;have F6:=F5.trans f6;simp(disch:=omega)only[go_sem,rB h6 F6];refine (FI _ d O R h6 (hc0.mono (f1.trans F6)) hd so sr hb).mono ?_;rintro _ h7 ⟨rfl,f7⟩;have F7:=F6.trans f7;simp(disch:=omega)only[go_sem,rB h7 F7];refine (FB _ d O R h7 (hc0.mono (f1.trans F7)) hd so sr hb).mono ?_;rintro _ h8 ⟨rfl,f8⟩;have F8:=F7.trans f8;simp(disch:=omega)only[go_sem];refine (xH .aC .aC [] [] h8 (SI.aC _) (SI.aC _) (by decide) (by decide)).mono ?_;rintro _ h9 ⟨rfl,f9⟩;have F9:=F8.trans f9;simp(disch:=omega)only[go_sem,show decide (([]:List Int)= [])=true from rfl,decide_true];refine (Tt .aC .aC [] [] h9 (SV.aC _ 1) (SV.aC _ 1) (by decide) (by decide)).mono ?_;rintro _ h10 ⟨rfl,f10⟩;have F10:=F9.trans f10;simp(disch:=omega)only[go_sem,show decide (([]:List Bool)= [])=true from rfl,decide_true];refine (Ix h10).mono ?_;rintro _ h11 ⟨rfl,f11⟩;simp(disch:=omega)only[go_sem];exact f1.trans (F10.trans f11)
 obtain⟨n,O',R',rfl,rfl,rfl,gc⟩:=aaL hc0 hd hb
 obtain⟨L,hL⟩:=exI (cK O' R' n 0 (cJ n))
 obtain⟨E,ll⟩:=fE gc.mI gc.isc
 have ll5:=kE gc
 rw[hL] at E ll
 have hG:=gc.mI
 simp(disch:=omega)only[go_sem,rB h2 f2]
 refine (Zo _ z n O' R' _ h2 (gc.mono (f1.trans f2)) L hz hL).mono ?_
 rintro _ h3 ⟨K,v4,ik,rfl,s4,f3⟩
 have F3:=f2.trans f3
 simp(disch:=omega)only[go_sem,rB h3 F3]
 refine (EI _ z n O' R' _ h3 hz (gc.mono (f1.trans F3)) L hL).mono ?_
 rintro _ h4 ⟨K',v6,ik',rfl,s6,f4⟩
 obtain rfl:=ik.uniq ik'
 have F4:=F3.trans f4
 simp(disch:=omega)only[go_sem,rB h4 F4]
 refine (Zz _ n O' R' _ h4 (gc.mono (f1.trans F4)) L hL).mono ?_
 rintro _ h5 ⟨K',ik',rfl,f5⟩
 obtain rfl:=ik.uniq ik'
 have F5:=F4.trans f5
 simp(disch:=omega)only[go_sem,rB h5 F5]
 refine (QL _ n O' R' _ h5 (gc.mono (f1.trans F5)) L hL).mono ?_
 rintro _ h6 ⟨K',ik',rfl,f6⟩
 obtain rfl:=ik.uniq ik'
 have F6:=F5.trans f6
 simp(disch:=omega)only[go_sem,rB h6 F6]
 refine (LO _ n O' R' _ h6 (gc.mono (f1.trans F6)) L hL).mono ?_
 rintro _ h7 ⟨K',v12,ik',rfl,s12,f7⟩
 obtain rfl:=ik.uniq ik'
 have F7:=F6.trans f7
 simp(disch:=omega)only[go_sem,rB h7 F7]
 refine (PC _ n O' R' _ h7 (gc.mono (f1.trans F7)) L hL).mono ?_
 rintro _ h8 ⟨K',v14,ik',rfl,s14,f8⟩
 obtain rfl:=ik.uniq ik'
 have F8:=F7.trans f8
 have hwm:K.length<=5040:=by
  rw[ik.perm.length_eq];unfold cE;exact Nat.le_trans (List.length_filter_le _ _) (by rw[List.length_range];omega)
 rw[JO] at s4 s6
 rw[CK] at s12 s14
 simp(disch:=omega)only[go_sem]
 have ln:(zi (K.map (rH n (Li n R') L K z))).length<1000000:=by rw[aQ,lW];omega
 refine (xH v4 v6 _ _ h8 (SV.mono s4 (f4.trans (f5.trans (f6.trans (f7.trans f8))))) (SV.mono s6 (f5.trans (f6.trans (f7.trans f8)))) ln ln).mono ?_
 rintro _ h9 ⟨rfl,f9⟩
 have F9:=F8.trans f9
 rw[decide_eq_true rfl]
 simp(disch:=omega)only[go_sem,decide_true]
 have lb:(K.map (lZ (Li n R') L)).length<1000000:=by rw[lW];omega
 refine (Tt v12 v14 _ _ h9 (SV.mono s12 (f8.trans f9)) (SV.mono s14 f9) lb lb).mono ?_
 rintro _ h10 ⟨rfl,f10⟩
 have F10:=F9.trans f10
 rw[decide_eq_true rfl]
 simp(disch:=omega)only[go_sem,decide_true]
 refine (Ix h10).mono ?_
 rintro _ h11 ⟨rfl,f11⟩
 simp(disch:=omega)only[go_sem]
 exact f1.trans (F10.trans f11)
end Go.Proofs.YtddpkbicnolafaaGreat
