/- One operation, whole. -/
import Derived.Test.YtcdbmkidaecdiaaGreatAy7
namespace Go.Ay
open Go
def Goal (P:Program)(m:M)(h:H)(w:World)(o:Oper)(a:Act)(v:V)(h':H):Prop:=
 ∃x w' m',Yields P o a w x w'/\VR m' v x/\jR P m h w m' h' w'
section
variable {P:Program} {m:M} {h:H} {w:World} {o:Oper} {a:Act} {v:V} {h':H}
theorem bD.goal {s:Sem Value}(c:bD P m h w s v h')(b:execOp a.eval o=(do pure (.value (←s)))):Goal P m h w o a v h':=by
 obtain⟨x,i,g,d,f,e⟩:=c;exact⟨x,i,g,.inl (by rw[b];simp [d]),f,e⟩
theorem Kz (e:HR P m h w)(d:iY m h.next){x:Value}(b:execOp a.eval o=pure (.value x))(c:VR m v x):Goal P m h w o a v h:=
 ⟨x,w,m,.inl (by rw[b];rfl),c,jR.refl e d⟩
theorem Ts {s:Sem Unit}{w':World}{b:M}(c:execOp a.eval o=(do s;pure .skip))(e:s.run P w= .ok () w')(d:jR P m h w b h' w'):Goal P m h w o a V.undef h':=
 ⟨undef,w',b,.inr ⟨by rw[c];simp [e],rfl⟩,VR.undef b,d⟩
theorem uS {t e:TypeId}(h:Hd P t=some e):P.underlying t=some (.slice e):=by
 unfold Hd at h;split at h
 ·cases h;assumption
 ·cases h
theorem LI {t:TypeId}{i:Nat}{f:Field}(h:CO P t i=some f): ∃fs,P.underlying t=some (.struct fs)/\fs[i]? =some f:=by
 unfold CO at h;split at h
 ·exact⟨_,by assumption,h⟩
 ·cases h
variable {nt:Nat} {pv defs:List Nat} {vars loc:List V}
theorem tL (s:St m nt pv defs vars loc a){c:Option Operand}{xs:Option X}(b:Gf pv defs c=some xs):UD m (xs.map (xv vars loc)) (c.map a.eval):=by
 cases c with
 |none=>simp only[Gf] at b;cases b;trivial
 |some o=>
  simp only[Gf,oU] at b;obtain⟨x,d,rfl⟩:=b;exact aQ s d
theorem AW (s:St m nt pv defs vars loc a){c:Array (Nat×Operand)}{f:Nat×Operand->X->Nat×X}{ps:List (Nat×X)}
  (y:dG (c.toList.map λp=>(iM pv defs p.2).map (f p))=some ps) (l: ∀p x,(f p x).2=x):
  ps.length=(c.map λ(i,x)=>(i,a.eval x)).size/\ ∀(j:Nat) (b:Nat×X) (q:Nat×Value),ps[j]? =some b->(c.map λ(i,x)=>(i,a.eval x)).toList[j]? =some q->
   ∃p,c.toList[j]? =some p/\q.1=p.1/\b=f p b.2/\VR m (xv vars loc b.2) q.2:=by
 obtain⟨n,r⟩:=jC y
 refine⟨by simpa using n,λj b q t k=>?_⟩
 simp only[Array.toList_map,Qy,oU] at k
 obtain⟨p,g,rfl⟩:=k
 obtain⟨z,e,d⟩:=r j p g
 rw[t] at e;cases e
 simp only[oU] at d
 obtain⟨x,u,rfl⟩:=d
 exact⟨p,g,rfl,by rw[l],by rw[l];exact aQ s u⟩
theorem CS (s:St m nt pv defs vars loc a)(N:HR P m h w)(R:iY m h.next){c:Call}(c6:o.op= .call c){i:I}(d:xI P pv defs c o.type=some (.op i))(j:fC (xv vars loc) h i=some (v,h')):Goal P m h w o a v h':=by
 obtain⟨L,A,g⟩:=c
 have ex: ∀b,L= .builtin b-> ∀sv:Sem Value,builtin b g o.type (A.map fun| .const _=>true|_=>false) (A.map a.eval)=(do pure (.value (←sv)))->
   execOp a.eval o=(do pure (.value (←sv))):=by
  intro b hb sv b7
  unfold execOp
  rw[c6]
  subst hb
  simp only[resolve,Go.invoke]
  exact b7
 unfold xI at d
 cases L with
 |value f=>
  exfalso
  cases f with
  |func f=>simp only at d;split at d<;>simp at d
  |_=>simp [xP] at d
 |invoke r mm=>
  cases d
 |builtin b=>
  cases b<;>simp only at d<;>try (cases d;done)
  case clear=>
   split at d
   ·rename_i x t ha ht
    have J:A= #[x]:=by apply Array.toList_inj.1;simpa using ha
    have K:g= #[t]:=by apply Array.toList_inj.1;simpa using ht
    subst J;subst K;simp only[Da,xP] at d;obtain⟨e,O,sz,F,d⟩:=d;split at d
    ·cases d
    ·rename_i Q
     have a4:BL P e sz=true:=by cases hq:BL P e sz with
      |true=>rfl
      |false=>exact absurd (.inr hq) Q
     have c5:sz≠0:=λe=>Q (.inl e)
     simp only[xP] at d;obtain⟨zu,hz,cx,B,d⟩:=d;cases d;obtain⟨i2,z,G,Y,a6⟩:=Jd a4;have a0:i2.size=sz:=by unfold jL at F;rw[G] at F;simpa using F
     obtain⟨c4,b9,_⟩:=qY m hz G Y;have l:=aQ s B;have U:=uS O
     have W: ∀{w':World} {m':M},(Builtin.clear_ #[t] o.type #[a.eval x]).run P w= .ok (.tuple #[]) w'->v=V.undef->jR P m h w m' h' w'->Goal P m h w o a v h':=by
      intro w' m' h1 h2 h3;subst h2;exact bD.goal (s:=Builtin.clear_ #[t] o.type #[a.eval x]) ⟨.tuple #[],w',m',h1,VR.undef m',h3⟩ (ex _ rfl _ (by simp [Go.builtin]))
     simp only[fC] at j;split at j
     ·rename_i Z
      rw[Z] at l;cases j;have q:a.eval x= .slice none 0 0:=l;exact W (by simp [Builtin.clear_,q,run_underlying U]) rfl (jR.refl N R)
     ·rename_i ad Z
      rw[Z] at l;cases j;have q:a.eval x= .slice (some ad) 0 0:=l;exact W (by simp [Builtin.clear_,q,run_underlying U]) rfl (jR.refl N R)
     ·rename_i id c9 len c7 Z
      rw[Z] at l;obtain⟨p,c,o',hp,q,c8,ho,_⟩:=l;split at j
      ·rename_i h0
       cases j;subst h0;exact W (by simp [Builtin.clear_,q,run_underlying U]) rfl (jR.refl N R)
      ·rename_i h0
       obtain rfl:=ho om;split at j
       ·rename_i c3
        simp only[oU] at j;obtain⟨h2,b5,j⟩:=j;cases j;have a1:0<zu.cells.length:=by rw[c3.1];omega
        have hv:=Bt c4 a1 (len*sz);obtain⟨w',jI,a9⟩:=Dq N R b5 hv (Qp b9 a1 _) hp;have b3:z.cells.size=sz:=by simpa using a6
        have c1:(zeroValue e).run P w= .ok z w:=by simp [zeroValue,typeInfo,G,Y]
        refine W ?_ rfl a9
        obtain⟨n,rfl⟩: ∃n,len=n+1:=⟨len- 1,om⟩
        have b2:(Builtin.zeroCells z.cells (n+1)).toList=((Array.range ((n+1)*sz)).map (z.cells[· %z.cells.size]!)).toList:=by
         unfold Builtin.zeroCells;rw[b3]
        simp [Builtin.clear_,q,run_underlying U,c1];rw[b2,jI]
        rfl
       ·cases j
     ·cases j
   ·cases d
  case append=>
   split at d
   ·rename_i x y t u ha ht
    have J:A= #[x,y]:=by apply Array.toList_inj.1;simpa using ha
    have K:g= #[t,u]:=by apply Array.toList_inj.1;simpa using ht
    subst J;subst K;simp only[Da,xP] at d;obtain⟨e,O,sz,F,d⟩:=d;split at d
    ·cases d
    ·rename_i Q
     have c5:sz≠0:=λe=>Q (.inl e)
     have a4:BL P e sz=true:=by cases hq:BL P e sz with
      |true=>rfl
      |false=>exact absurd (.inr hq) Q
     obtain⟨i2,z,G,Y,a6⟩:=Jd a4;have a0:i2.size=sz:=by unfold jL at F;rw[G] at F;simpa using F
     refine bD.goal (s:=Builtin.append_ #[t,u] o.type #[a.eval x,a.eval y]) ?_ (ex _ rfl _ (by simp [Go.builtin]));split at d
     ·rename_i hu
      simp only[xP] at d;obtain⟨a2,hb,cx,B,cy,a3,d⟩:=d;cases d;have c0:i2.bytes=a2:=by unfold Ba at hb;rw[G] at hb;simpa using hb
      simp only[fC] at j;split at j
      ·rename_i k ys hk b6
       have a8:=aQ s a3;obtain⟨ns,b8,b4,h1,hl⟩:=Lm N a8 hk b6;obtain⟨ab,ac,c2⟩:=uX a8 hk;exact JO N R (uS O) G Y a0 c0 a6 (aQ s B) b4 h1 ⟨by rw[a0];exact hl,.inl ⟨_,hu,by rw[c2];rfl,by rw[a0];exact b8⟩⟩ j o.type
      ·cases j
     ·cases d
   ·cases d
  case copy=>
   split at d
   ·rename_i x y t u ha ht
    have J:A= #[x,y]:=by apply Array.toList_inj.1;simpa using ha
    have K:g= #[t,u]:=by apply Array.toList_inj.1;simpa using ht
    subst J;subst K;simp only[Da,xP] at d;obtain⟨e,O,sz,F,d⟩:=d;split at d
    ·cases d
    ·simp only[xP] at d
     obtain⟨cx,B,cy,a3,d⟩:=d;cases d;exact bD.goal (s:=Builtin.copy_ #[t,u] o.type #[a.eval x,a.eval y]) (NX N R (uS O) F (aQ s B) (aQ s a3) j o.type) (ex _ rfl _ (by simp [Go.builtin]))
   ·cases d
  case len=>
   split at d
   ·rename_i x t ha ht
    have J:A= #[x]:=by apply Array.toList_inj.1;simpa using ha
    have K:g= #[t]:=by apply Array.toList_inj.1;simpa using ht
    subst J;subst K;split at d
    ·rename_i e hu
     simp only[oU,fO.op.injEq] at d;obtain⟨cx,B,rfl⟩:=d;simp only[fC,oU] at j;obtain⟨n,hn,j⟩:=j;cases j;obtain⟨b,c,q⟩:=uX (aQ s B) hn;refine bD.goal (s:=Builtin.len_ #[t] o.type #[a.eval x]) (bD.still N R (x:= .int .i64 n) ?_ rfl) (ex _ rfl _ (by simp [Go.builtin]));rw[q];simp [Builtin.len_,run_underlying hu,goInt]
    ·rename_i k e hu
     simp only[oU,fO.op.injEq] at d;obtain⟨cx,B,rfl⟩:=d;have l:=aQ s B;simp only[fC] at j;refine bD.goal (s:=Builtin.len_ #[t] o.type #[a.eval x]) ?_ (ex _ rfl _ (by simp [Go.builtin]));split at j
     ·rename_i Z
      rw[Z] at l;cases j;refine bD.still N R (x:= .int .i64 0) ?_ rfl;rw[show a.eval x= .map none from l];simp [Builtin.len_,run_underlying hu,goInt]
     ·rename_i id Z
      rw[Z] at l;split at j
      ·rename_i sh es hg
       cases j;obtain⟨p,hp,q⟩:=l;obtain⟨p',b1,_,a7,a5,hb,hl,_⟩:=N.live id _ hg;rw[hp] at b1;cases b1;refine bD.still N R (x:= .int .i64 a7.size) ?_ (by rw[hl];rfl);rw[q];have b0:(getObj p.1).run P w= .ok (.map a7 a5) w:=by simp [getObj,Sem.run,hb]
       simp [Builtin.len_,run_underlying hu,goInt,b0]
      ·cases j
     ·cases j
    ·cases d
   ·cases d
end
end Go.Ay
