/- One operation, whole. -/
import Derived.Test.YtcdbmkidaecdiaaGreatAy7
namespace Go.Ay
open Go
def Goal (P:Program)(m:M)(h:H)(w:World)(o:Oper)(a:Act)(v:V)(h':H):Prop:=
 ∃x w' m',Yields P o a w x w'/\VR m' v x/\jR P m h w m' h' w'
section
variable {P:Program} {m:M} {h:H} {w:World} {o:Oper} {a:Act} {v:V} {h':H}
theorem bD.goal {s:Sem Value}(c:bD P m h w s v h')(f:execOp a.eval o=(do pure (.value (←s)))):Goal P m h w o a v h':=by
 obtain⟨x,j,b,d,k,i⟩:=c;exact⟨x,j,b,.inl (by rw[f];simp [d]),k,i⟩
theorem Kz (d:HR P m h w)(f:iY m h.next){x:Value}(b:execOp a.eval o=pure (.value x))(c:VR m v x):Goal P m h w o a v h:=
 ⟨x,w,m,.inl (by rw[b];rfl),c,jR.refl d f⟩
theorem Ts {s:Sem Unit}{w':World}{b:M}(c:execOp a.eval o=(do s;pure .skip))(d:s.run P w= .ok () w')(f:jR P m h w b h' w'):Goal P m h w o a V.undef h':=
 ⟨undef,w',b,.inr ⟨by rw[c];simp [d],rfl⟩,VR.undef b,f⟩
theorem uS {t e:TypeId}(h:Hd P t=some e):P.underlying t=some (.slice e):=by
 unfold Hd at h;split at h
 ·cases h;assumption
 ·cases h
theorem LI {t:TypeId}{i:Nat}{f:Field}(h:CO P t i=some f): ∃fs,P.underlying t=some (.struct fs)/\fs[i]? =some f:=by
 unfold CO at h;split at h
 ·exact⟨_,by assumption,h⟩
 ·cases h
variable {nt:Nat} {pv defs:List Nat} {vars loc:List V}
theorem tL (s:St m nt pv defs vars loc a){c:Option Operand}{xs:Option X}(b:Gf pv defs c=some xs):UD m (xs.map (xv vars loc)) (c.map a.eval):=by
 cases c with
 |none=>simp only[Gf] at b;cases b;trivial
 |some o=>
  simp only[Gf,oU] at b;obtain⟨x,d,rfl⟩:=b;exact aQ s d
theorem AW (s:St m nt pv defs vars loc a){c:Array (Nat×Operand)}{f:Nat×Operand->X->Nat×X}{ps:List (Nat×X)}
  (z:dG (c.toList.map λp=>(iM pv defs p.2).map (f p))=some ps) (r: ∀p x,(f p x).2=x):
  ps.length=(c.map λ(i,x)=>(i,a.eval x)).size/\ ∀(j:Nat) (b:Nat×X) (q:Nat×Value),ps[j]? =some b->(c.map λ(i,x)=>(i,a.eval x)).toList[j]? =some q->
   ∃p,c.toList[j]? =some p/\q.1=p.1/\b=f p b.2/\VR m (xv vars loc b.2) q.2:=by
 obtain⟨u,y⟩:=jC z
 refine⟨by simpa using u,λj b q A n=>?_⟩
 simp only[Array.toList_map,Qy,oU] at n
 obtain⟨p,l,rfl⟩:=n
 obtain⟨B,k,d⟩:=y j p l
 rw[A] at k;cases k
 simp only[oU] at d
 obtain⟨x,t,rfl⟩:=d
 exact⟨p,l,rfl,by rw[r],by rw[r];exact aQ s t⟩
theorem CS (s:St m nt pv defs vars loc a)(R:HR P m h w)(U:iY m h.next){c:Call}(c4:o.op= .call c){i:I}(d:xI P pv defs c o.type=some (.op i))(l:fC (xv vars loc) h i=some (v,h')):Goal P m h w o a v h':=by
 obtain⟨N,B,j⟩:=c
 have ex: ∀b,N= .builtin b-> ∀sv:Sem Value,builtin b j o.type (B.map fun| .const _=>true|_=>false) (B.map a.eval)=(do pure (.value (←sv)))->
   execOp a.eval o=(do pure (.value (←sv))):=by
  intro b hb sv c5
  unfold execOp
  rw[c4]
  subst hb
  simp only[resolve,Go.invoke]
  exact c5
 unfold xI at d
 cases N with
 |value f=>
  exfalso
  cases f with
  |func f=>simp only at d;split at d<;>simp at d
  |_=>simp [xP] at d
 |invoke r mm=>
  cases d
 |builtin b=>
  cases b<;>simp only at d<;>try (cases d;done)
  case clear=>
   split at d
   ·rename_i x t ha ht
    have L:B= #[x]:=by apply Array.toList_inj.1;simpa using ha
    have K:j= #[t]:=by apply Array.toList_inj.1;simpa using ht
    subst L;subst K;simp only[Da,xP] at d;obtain⟨e,O,sz,F,d⟩:=d;split at d
    ·cases d
    ·rename_i Q
     have a4:BL P e sz=true:=by cases hq:BL P e sz with
      |true=>rfl
      |false=>exact absurd (.inr hq) Q
     have c0:sz≠0:=λe=>Q (.inl e)
     simp only[xP] at d;obtain⟨zu,hz,cx,G,d⟩:=d;cases d;obtain⟨i2,z,J,Z,a6⟩:=Jd a4;have a0:i2.size=sz:=by unfold jL at F;rw[J] at F;simpa using F
     obtain⟨b8,b9,_⟩:=qY m hz J Z;have q:=aQ s G;have W:=uS O
     have a1: ∀{w':World} {m':M},(Builtin.clear_ #[t] o.type #[a.eval x]).run P w= .ok (.tuple #[]) w'->v=V.undef->jR P m h w m' h' w'->Goal P m h w o a v h':=by
      intro w' m' h1 h2 h3;subst h2;exact bD.goal (s:=Builtin.clear_ #[t] o.type #[a.eval x]) ⟨.tuple #[],w',m',h1,VR.undef m',h3⟩ (ex _ rfl _ (by simp [Go.builtin]))
     simp only[fC] at l;split at l
     ·rename_i Y
      rw[Y] at q;cases l;have A:a.eval x= .slice none 0 0:=q;exact a1 (by simp [Builtin.clear_,A,run_underlying W]) rfl (jR.refl R U)
     ·rename_i ad Y
      rw[Y] at q;cases l;have A:a.eval x= .slice (some ad) 0 0:=q;exact a1 (by simp [Builtin.clear_,A,run_underlying W]) rfl (jR.refl R U)
     ·rename_i id c8 len c9 Y
      rw[Y] at q;obtain⟨p,c,o',hp,A,d0,ho,_⟩:=q;split at l
      ·rename_i h0
       cases l;subst h0;exact a1 (by simp [Builtin.clear_,A,run_underlying W]) rfl (jR.refl R U)
      ·rename_i h0
       obtain rfl:=ho om;split at l
       ·rename_i c6
        simp only[oU] at l;obtain⟨h2,b6,l⟩:=l;cases l;have a2:0<zu.cells.length:=by rw[c6.1];omega
        have hv:=Bt b8 a2 (len*sz);obtain⟨w',jI,b2⟩:=Dq R U b6 hv (Qp b9 a2 _) hp;have b5:z.cells.size=sz:=by simpa using a6
        have c7:(zeroValue e).run P w= .ok z w:=by simp [zeroValue,typeInfo,J,Z]
        refine a1 ?_ rfl b2
        obtain⟨n,rfl⟩: ∃n,len=n+1:=⟨len- 1,om⟩
        have a9:(Builtin.zeroCells z.cells (n+1)).toList=((Array.range ((n+1)*sz)).map (z.cells[· %z.cells.size]!)).toList:=by
         unfold Builtin.zeroCells;rw[b5]
        simp [Builtin.clear_,A,run_underlying W,c7];rw[a9,jI]
        rfl
       ·cases l
     ·cases l
   ·cases d
  case append=>
   split at d
   ·rename_i x y t u ha ht
    have L:B= #[x,y]:=by apply Array.toList_inj.1;simpa using ha
    have K:j= #[t,u]:=by apply Array.toList_inj.1;simpa using ht
    subst L;subst K;simp only[Da,xP] at d;obtain⟨e,O,sz,F,d⟩:=d;split at d
    ·cases d
    ·rename_i Q
     have c0:sz≠0:=λe=>Q (.inl e)
     have a4:BL P e sz=true:=by cases hq:BL P e sz with
      |true=>rfl
      |false=>exact absurd (.inr hq) Q
     obtain⟨i2,z,J,Z,a6⟩:=Jd a4;have a0:i2.size=sz:=by unfold jL at F;rw[J] at F;simpa using F
     refine bD.goal (s:=Builtin.append_ #[t,u] o.type #[a.eval x,a.eval y]) ?_ (ex _ rfl _ (by simp [Go.builtin]));split at d
     ·rename_i hu
      simp only[xP] at d;obtain⟨a5,hb,cx,G,cy,a3,d⟩:=d;cases d;have c2:i2.bytes=a5:=by unfold Jy at hb;rw[J] at hb;simpa using hb
      simp only[fC] at l;split at l
      ·rename_i k ys hk b7
       have b1:=aQ s a3;obtain⟨ns,c3,a8,h1,hl⟩:=Lm R b1 hk b7;obtain⟨ab,ac,c1⟩:=uX b1 hk;exact JO R U (uS O) J Z a0 c2 a6 (aQ s G) a8 h1 ⟨by rw[a0];exact hl,.inl ⟨_,hu,by rw[c1];rfl,by rw[a0];exact c3⟩⟩ l o.type
      ·cases l
     ·cases d
   ·cases d
  case copy=>
   split at d
   ·rename_i x y t u ha ht
    have L:B= #[x,y]:=by apply Array.toList_inj.1;simpa using ha
    have K:j= #[t,u]:=by apply Array.toList_inj.1;simpa using ht
    subst L;subst K;simp only[Da,xP] at d;obtain⟨e,O,sz,F,d⟩:=d;split at d
    ·cases d
    ·simp only[xP] at d
     obtain⟨cx,G,cy,a3,d⟩:=d;cases d;exact bD.goal (s:=Builtin.copy_ #[t,u] o.type #[a.eval x,a.eval y]) (NX R U (uS O) F (aQ s G) (aQ s a3) l o.type) (ex _ rfl _ (by simp [Go.builtin]))
   ·cases d
  case len=>
   split at d
   ·rename_i x t ha ht
    have L:B= #[x]:=by apply Array.toList_inj.1;simpa using ha
    have K:j= #[t]:=by apply Array.toList_inj.1;simpa using ht
    subst L;subst K;split at d
    ·rename_i e hu
     simp only[oU,fO.op.injEq] at d;obtain⟨cx,G,rfl⟩:=d;simp only[fC,oU] at l;obtain⟨n,hn,l⟩:=l;cases l;obtain⟨b,c,A⟩:=uX (aQ s G) hn;refine bD.goal (s:=Builtin.len_ #[t] o.type #[a.eval x]) (bD.still R U (x:= .int .i64 n) ?_ rfl) (ex _ rfl _ (by simp [Go.builtin]));rw[A];simp [Builtin.len_,run_underlying hu,goInt]
    ·rename_i k e hu
     simp only[oU,fO.op.injEq] at d;obtain⟨cx,G,rfl⟩:=d;have q:=aQ s G;simp only[fC] at l;refine bD.goal (s:=Builtin.len_ #[t] o.type #[a.eval x]) ?_ (ex _ rfl _ (by simp [Go.builtin]));split at l
     ·rename_i Y
      rw[Y] at q;cases l;refine bD.still R U (x:= .int .i64 0) ?_ rfl;rw[show a.eval x= .map none from q];simp [Builtin.len_,run_underlying hu,goInt]
     ·rename_i id Y
      rw[Y] at q;split at l
      ·rename_i sh es hg
       cases l;obtain⟨p,hp,A⟩:=q;obtain⟨p',b4,_,b3,a7,hb,hl,_⟩:=R.live id _ hg;rw[hp] at b4;cases b4;refine bD.still R U (x:= .int .i64 b3.size) ?_ (by rw[hl];rfl);rw[A];have b0:(getObj p.1).run P w= .ok (.map b3 a7) w:=by simp [getObj,Sem.run,hb]
       simp [Builtin.len_,run_underlying hu,goInt,b0]
      ·cases l
     ·cases l
    ·cases d
   ·cases d
end
end Go.Ay
