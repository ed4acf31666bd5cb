/- Layer 15: ClassesGroups. -/
import Derived.Test.YtddpkbicnolafaaGreatP8ctoP9m
import Derived.Test.YtddpkbicnolafaaGreatSc5toP8b
namespace Go.Proofs.YtddpkbicnolafaaGreat
open Go Go.Ay Go.Pm
set_option maxRecDepth 100000
variable {h:H} {v:V} {G:List Nat->Prop} {L:LN} {K:List Nat} {z:Int}
theorem Az.nil (h:H):Az h (.agg [aC 0,.aB,.aB]) 0 [] []:=⟨.aB,.aB,rfl,⟨[],SV.aB _ 1,trivial⟩,⟨[],SV.aB _ 1,trivial,λv hv=>by cases hv⟩⟩
theorem SP.sr {l:LN}(s:SP h v l):SR h v (l.map zi):=s
def QK (n:Nat)(G:List Nat->Prop)(L:LN)(K:List Nat)(z ea da:Int)(Oa:List (List Int))(Ra:List (List (List Int))):Prop:=
 (z<0∨(K.length:Int)<=z)/\ea=2/\da=0/\Oa= []/\Ra= []∨ ∃(k:Nat) (O':LN) (R':kW),z=(k:Int)/\k<K.length/\ea=0/\da=(n:Int)/\Oa=O'.map zi/\Ra=R'.map (List.map zi)/\dM n (Co G (L.getD (K.getD k 0) [])) O' R'
theorem QK.uniq {n:Nat}{ea da ea' da':Int}{Oa Oa':List (List Int)}{Ra Ra':List (List (List Int))}(a:QK n G L K z ea da Oa Ra)(b:QK n G L K z ea' da' Oa' Ra'):ea=ea'/\da=da'/\Oa=Oa'/\Ra=Ra':=by
 rcases a with ⟨a1,rfl,rfl,rfl,rfl⟩|⟨k,O1,R1,ek,hk,rfl,rfl,rfl,rfl,c1⟩
 ·rcases b with ⟨b1,rfl,rfl,rfl,rfl⟩|⟨k,O1,R1,ek,hk,_⟩
  ·exact⟨rfl,rfl,rfl,rfl⟩
  ·omega
 ·rcases b with ⟨b1,_⟩|⟨k2,O2,R2,ek2,hk2,rfl,rfl,rfl,rfl,c2⟩
  ·omega
  ·obtain rfl:k=k2:=by omega
   obtain⟨rfl,rfl⟩:=c1.uniq c2;exact⟨rfl,rfl,rfl,rfl⟩
structure aaY (h:H)(v:V)(ea da:Int)(Oa:List (List Int))(Ra:List (List (List Int))):Prop where
 ex: ∃u w,v= .tup [.agg [aC da,u,w],aC ea]/\u.one=true/\w.one=true/\Az h (.agg [aC da,u,w]) da Oa Ra
 so:lF Oa
 sr:lH Ra
theorem BY {n:Nat}{W:Nat->Prop}(s:(z<0∨(K.length:Int)<=z)/\v= .tup [.agg [aC 0,.aB,.aB],aC 2]∨ ∃(k:Nat) (vr:V) (O':LN) (R':kW),z=(k:Int)/\k<K.length/\v= .tup [vr,aC 0]/\GC W h vr n O' R' (Co G (L.getD (K.getD k 0) []))):
  ∃ea da Oa Ra,QK n G L K z ea da Oa Ra/\aaY h v ea da Oa Ra:=by
 rcases s with ⟨a,rfl⟩|⟨k,vr,O',R',ek,hk,rfl,gc⟩
 ·exact⟨2,0, [], [],.inl ⟨a,rfl,rfl,rfl,rfl⟩,⟨.aB,.aB,rfl,rfl,rfl,Az.nil _⟩,⟨by decide,λ_ h=>by cases h⟩,⟨by decide,λ_ h=>by cases h⟩⟩
 ·obtain⟨u,w,rfl,a,b,_,_⟩:=gc.sl
  exact⟨0,n,_,_,.inr ⟨k,O',R',ek,hk,rfl,rfl,rfl,rfl,gc.isc⟩,⟨u,w,rfl,a,b,gc.ch⟩,gc.small.1,gc.small.2⟩
noncomputable def HK (G:List Nat->Prop)(L:LN)(K:List Nat)(z:Int):List (List Int):=if z<0∨(K.length:Int)<=z then [] else ((fY G L (K.getD z.toNat 0)).map λr=>L.getD r []).map zi
theorem BR (s:(z<0∨(K.length:Int)<=z)/\v= .tup [.aB,aC 2]∨ ∃(k:Nat) (vl:V),z=(k:Int)/\k<K.length/\v= .tup [vl,aC 0]/\SP h vl ((fY G L (K.getD k 0)).map λr=>L.getD r [])):
  ∃vl,v= .tup [vl,aC (if z<0∨(K.length:Int)<=z then 2 else 0)]/\SR h vl (HK G L K z):=by
 unfold HK
 rcases s with ⟨a,rfl⟩|⟨k,vl,rfl,hk,rfl,s⟩
 ·rw[if_pos a,if_pos a];exact⟨.aB,rfl, [],SV.aB _ 1,trivial⟩
 ·rw[if_neg (by omega),if_neg (by omega)];exact⟨vl,rfl,s⟩
set_option maxHeartbeats 64000000 in
theorem To (vc:V)(z:Int)(d:Int)(O:List (List Int))(R:List (List (List Int)))(h:H)(hc:Az h vc d O R):
  Ev T 5 [vc,aC z] h (λv h'=>v= .bool true/\Fr h h'):=by
 have hc0:=hc
 obtain⟨vO,vR,rfl,sO,sR⟩:=hc
 refine bH lG rfl rfl ?_
 have oneO:vO.one=true:=Hc sO
 have oneR:vR.one=true:=Eo sR
 obtain⟨B,hB⟩:=exI h.next
 obtain⟨h1,e1,n1,g1,o1,f1⟩:=eQ hB [aC d,vO,vR]
 have bx:=bE h (v:= aC d) (u:=vO) (w:=vR) rfl oneO oneR
 have rB: ∀hh,Fr h1 hh->hh.row B 0 3=some [aC d,vO,vR]:=λhh f=>aJ (by rw[f.get B (by omega)];exact g1)
 simp(disch:=omega)only[go_sem,lG,aE,bx,hB,e1,rB h1 (Fr.refl _)]
 refine (QO _ d O R h1 (hc0.mono f1)).mono ?_
 rintro _ h2 ⟨hv,f2⟩
 rcases hv with rfl|⟨rfl,sm⟩
 ·simp(disch:=omega)only[go_sem]
  refine (La h2).mono ?_
  rintro _ h3 ⟨rfl,f3⟩
  simp(disch:=omega)only[go_sem]
  exact (f1.trans f2).trans f3
 obtain⟨so,sr⟩:=sm.small
 have hd:d<=7∨64<d:=by have:=sm.deg;omega
 by_cases hb:kI d O R=0
 case neg=>
  simp(disch:=omega)only[go_sem,rB h2 f2];refine (KG _ _ d O R h2 (hc0.mono (f1.trans f2)) hd so sr hb).mono ?_;rintro _ h3 ⟨rfl,f3⟩;have F3:=f2.trans f3;obtain⟨C,hC⟩:=exI h3.next;obtain⟨h4,e4,n4,g4,o4,f4⟩:=eQ hC [aC 0,.aB,.aB];obtain⟨h5,e5,n5,g5,o5⟩:=uA h4 C [aC 0,.aB,.aB]
  have f35:Fr h3 h5:=⟨by omega,λq hq=>by rw[o5 q (by omega),o4 q (by omega)]⟩
  have F5:=F3.trans f35;simp(disch:=omega)only[go_sem,hC,e4,cU h4 C 0 (v:= aC 0) (u:= .aB) (w:= .aB) rfl rfl rfl,g4,cE,e5,rB h5 F5];refine (JE _ _ d O R h5 (hc0.mono (f1.trans F5)) hd so sr hb).mono ?_;rintro _ h6 ⟨rfl,f6⟩;have F6:=F5.trans f6;obtain⟨D,hD⟩:=exI h6.next;obtain⟨h7,e7,n7,g7,o7,f7⟩:=eQ hD [aC 0,.aB,.aB];obtain⟨h8,e8,n8,g8,o8⟩:=uA h7 D [aC 0,.aB,.aB]
  have f68:Fr h6 h8:=⟨by omega,λq hq=>by rw[o8 q (by omega),o7 q (by omega)]⟩
  have F8:=F6.trans f68;simp(disch:=omega)only[go_sem,hD,e7,cU h7 D 0 (v:= aC 0) (u:= .aB) (w:= .aB) rfl rfl rfl,g7,cE,e8,rB h8 F8];refine (Zl _ _ d O R h8 (hc0.mono (f1.trans F8)) hd so sr hb).mono ?_;rintro _ h9 ⟨rfl,f9⟩;have F9:=F8.trans f9;simp(disch:=omega)only[go_sem,rB h9 F9];refine (GU _ _ d O R h9 (hc0.mono (f1.trans F9)) hd so sr hb).mono ?_;rintro _ h10 ⟨rfl,f10⟩;have F10:=F9.trans f10;have n6:=f6.next;have n9:=f9.next;have rC:h10.row C 0 3=some [aC 0,.aB,.aB]:=aJ (by rw[(f6.trans (f68.trans (f9.trans f10))).get C (by omega)];exact g5);have rD:h10.row D 0 3=some [aC 0,.aB,.aB]:=aJ (by rw[(f9.trans f10).get D (by omega)];exact g8);simp(disch:=omega)only[go_sem,rC,rD];refine (xS _ _ 0 0 [] [] [] [] h10 (Az.nil _) (Az.nil _) ⟨by decide,λ_ h=>by cases h⟩ ⟨by decide,λ_ h=>by cases h⟩ ⟨by decide,λ_ h=>by cases h⟩ ⟨by decide,λ_ h=>by cases h⟩).mono ?_;rintro _ h11 ⟨rfl,f11⟩;have F11:=F10.trans f11;rw[decide_eq_true ⟨rfl,rfl,rfl⟩];simp(disch:=omega)only[go_sem,decide_true];refine (wH .aB .aB [] [] h11 ⟨[],SV.aB _ 1,trivial⟩ ⟨[],SV.aB _ 1,trivial⟩ (by decide) (by decide) (λ_ h=>by cases h) (λ_ h=>by cases h)).mono ?_;rintro _ h12 ⟨rfl,f12⟩;have F12:=F11.trans f12;rw[decide_eq_true rfl];simp(disch:=omega)only[go_sem,decide_true];refine (La h12).mono ?_;rintro _ h13 ⟨rfl,f13⟩;simp(disch:=omega)only[go_sem];exact f1.trans (F12.trans f13)
 obtain⟨n,O',R',rfl,rfl,rfl,gc⟩:=aaD hc0 hd hb
 obtain⟨L,hL⟩:=exI (cG O' R' n 0 (cH n))
 obtain⟨E,ll⟩:=eE gc.kP gc.isc
 have ll5:=kU gc
 rw[hL] at E ll
 have hG:=gc.kP
 have n6:n<=6:=by have:=sm.deg;have:=gc.n7;omega
 simp(disch:=omega)only[go_sem,rB h2 f2]
 refine (SS _ z n O' R' _ h2 (gc.mono (f1.trans f2)) L hL).mono ?_
 rintro _ h3 ⟨K,ik,f3,s3⟩
 obtain⟨ea,da,Oa,Ra,cs,⟨u3,w3,rfl,a3,b3,c3⟩,soa,sra⟩:=BY s3
 have F3:=f2.trans f3
 obtain⟨C,hC⟩:=exI h3.next
 obtain⟨h4,e4,n4,g4,o4,f4⟩:=eQ hC [aC 0,.aB,.aB]
 obtain⟨h5,e5,n5,g5,o5⟩:=uA h4 C [aC da,u3,w3]
 have f35:Fr h3 h5:=⟨by omega,λq hq=>by rw[o5 q (by omega),o4 q (by omega)]⟩
 have F5:=F3.trans f35
 simp(disch:=omega)only[go_sem,hC,e4,cU h4 C 0 (v:= aC da) (u:=u3) (w:=w3) rfl a3 b3,g4,cE,e5,rB h5 F5]
 refine (UG _ z n O' R' _ h5 n6 (gc.mono (f1.trans F5)) L hL).mono ?_
 rintro _ h6 ⟨K',ik',f6,s6⟩
 obtain rfl:=ik.uniq ik'
 obtain⟨ea',da',Oa',Ra',cs',⟨u6,w6,rfl,a6,b6,c6⟩,_,_⟩:=BY s6
 obtain⟨rfl,rfl,rfl,rfl⟩:=cs.uniq cs'
 have F6:=F5.trans f6
 obtain⟨D,hD⟩:=exI h6.next
 obtain⟨h7,e7,n7,g7,o7,f7⟩:=eQ hD [aC 0,.aB,.aB]
 obtain⟨h8,e8,n8,g8,o8⟩:=uA h7 D [aC da,u6,w6]
 have f68:Fr h6 h8:=⟨by omega,λq hq=>by rw[o8 q (by omega),o7 q (by omega)]⟩
 have F8:=F6.trans f68
 simp(disch:=omega)only[go_sem,hD,e7,cU h7 D 0 (v:= aC da) (u:=u6) (w:=w6) rfl a6 b6,g7,cE,e8,rB h8 F8]
 refine (GS _ z n O' R' _ h8 (gc.mono (f1.trans F8)) L hL).mono ?_
 rintro _ h9 ⟨K',ik',f9,s9⟩
 obtain rfl:=ik.uniq ik'
 obtain⟨v9,rfl,t9⟩:=BR s9
 have F9:=F8.trans f9
 simp(disch:=omega)only[go_sem,rB h9 F9]
 refine (KB _ z n O' R' _ h9 (gc.mono (f1.trans F9)) L hL).mono ?_
 rintro _ h10 ⟨K',ik',f10,s10⟩
 obtain rfl:=ik.uniq ik'
 obtain⟨v10,rfl,t10⟩:=BR s10
 have F10:=F9.trans f10
 have n6':=f6.next
 have n9:=f9.next
 have rC:h10.row C 0 3=some [aC da,u3,w3]:=aJ (by rw[(f6.trans (f68.trans (f9.trans f10))).get C (by omega)];exact g5)
 have rD:h10.row D 0 3=some [aC da,u6,w6]:=aJ (by rw[(f9.trans f10).get D (by omega)];exact g8)
 obtain⟨eg,heg⟩: ∃eg:Int,(if z<0∨(K.length:Int)<=z then 2 else 0)=eg:=⟨_,rfl⟩
 rw[heg]
 simp(disch:=omega)only[go_sem,rC,rD]
 refine (xS _ _ da da Oa Oa Ra Ra h10 (c3.mono (f35.trans (f6.trans (f68.trans (f9.trans f10))))) (c6.mono (f68.trans (f9.trans f10))) soa soa sra sra).mono ?_
 rintro _ h11 ⟨rfl,f11⟩
 have F11:=F10.trans f11
 rw[decide_eq_true ⟨rfl,rfl,rfl⟩]
 simp(disch:=omega)only[go_sem,decide_true]
 have lM:(HK (Ka n R') L K z).length<1000000/\ ∀x∈HK (Ka n R') L K z,x.length<1000000:=by
  unfold HK;split
  ·exact⟨by decide,λ_ h=>by cases h⟩
  ·refine⟨?_,λx hx=>?_⟩
   ·rw[jD,jD]
    have:=List.Nodup.length_le_of_subset (qC (G:=Ka n R') (L:=L) (K.getD z.toNat 0)) (l₂:=List.range L.length) λj hj=>Mr.2 (fW.1 hj).1
    rw[List.length_range] at this;omega
   ·obtain⟨a,ha,rfl⟩:=yH.1 hx
    obtain⟨r,hr,rfl⟩:=yH.1 ha;rw[aP,(jE hG E (fW.1 hr).1).len];omega
 refine (wH v9 v10 _ _ h11 (t9.mono (f10.trans f11)) (t10.mono f11) lM.1 lM.1 lM.2 lM.2).mono ?_
 rintro _ h12 ⟨rfl,f12⟩
 have F12:=F11.trans f12
 rw[decide_eq_true rfl]
 simp(disch:=omega)only[go_sem,decide_true]
 refine (La h12).mono ?_
 rintro _ h13 ⟨rfl,f13⟩
 simp(disch:=omega)only[go_sem]
 exact f1.trans (F12.trans f13)
end Go.Proofs.YtddpkbicnolafaaGreat
