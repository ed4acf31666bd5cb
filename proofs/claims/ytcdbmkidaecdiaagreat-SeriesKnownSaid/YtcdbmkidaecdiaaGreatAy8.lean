/- One operation, whole. -/
import Derived.Test.YtcdbmkidaecdiaaGreatAy7
namespace Go.Ay
open Go
def Goal (P:Program)(m:M)(h:H)(w:World)(o:Oper)(a:Act)(v:V)(h':H):Prop:=
 ∃x w' m',Yields P o a w x w'/\VR m' v x/\iO P m h w m' h' w'
section
variable {P:Program} {m:M} {h:H} {w:World} {o:Oper} {a:Act} {v:V} {h':H}
theorem aT.goal {s:Sem Value}(c:aT P m h w s v h')(e:execOp a.eval o=(do pure (.value (←s)))):Goal P m h w o a v h':=by
 obtain⟨x,i,d,b,g,f⟩:=c;exact⟨x,i,d,.inl (by rw[e];simp [b]),g,f⟩
theorem Jq (e:HR P m h w)(d:gK m h.next){x:Value}(b:execOp a.eval o=pure (.value x))(c:VR m v x):Goal P m h w o a v h:=
 ⟨x,w,m,.inl (by rw[b];rfl),c,iO.refl e d⟩
theorem Cc {s:Sem Unit}{w':World}{b:M}(d:execOp a.eval o=(do s;pure .skip))(e:s.run P w= .ok () w')(c:iO P m h w b h' w'):Goal P m h w o a V.undef h':=
 ⟨undef,w',b,.inr ⟨by rw[d];simp [e],rfl⟩,VR.undef b,c⟩
theorem uE {t:TypeId}{k:IntKind}(h:isInt P t=some k):P.underlying t=some (.int k):=by
 unfold isInt at h;split at h
 ·cases h;assumption
 ·cases h
theorem qX {t e:TypeId}(h:Gi P t=some e):P.underlying t=some (.slice e):=by
 unfold Gi at h;split at h
 ·cases h;assumption
 ·cases h
theorem Se {t:TypeId}{i:Nat}{f:Field}(h:Ug P t i=some f): ∃fs,P.underlying t=some (.struct fs)/\fs[i]? =some f:=by
 unfold Ug at h;split at h
 ·exact⟨_,by assumption,h⟩
 ·cases h
variable {nt:Nat} {pv defs:List Nat} {vars loc:List V}
theorem mK (s:St m nt pv defs vars loc a){c:Option Operand}{xs:Option X}(b:yI pv defs c=some xs):DV m (xs.map (xv vars loc)) (c.map a.eval):=by
 cases c with
 |none=>simp only[yI] at b;cases b;trivial
 |some o=>
  simp only[yI,mJ] at b;obtain⟨x,d,rfl⟩:=b;exact aJ s d
theorem Yh (s:St m nt pv defs vars loc a){c:Array (Nat×Operand)}{f:Nat×Operand->X->Nat×X}{ps:List (Nat×X)}
  (t:cH (c.toList.map λp=>(fU pv defs p.2).map (f p))=some ps) (l: ∀p x,(f p x).2=x):
  ps.length=(c.map λ(i,x)=>(i,a.eval x)).size/\ ∀(j:Nat) (b:Nat×X) (q:Nat×Value),ps[j]? =some b->(c.map λ(i,x)=>(i,a.eval x)).toList[j]? =some q->
   ∃p,c.toList[j]? =some p/\q.1=p.1/\b=f p b.2/\VR m (xv vars loc b.2) q.2:=by
 obtain⟨u,n⟩:=jD t
 refine⟨by simpa using u,λj b q y g=>?_⟩
 simp only[Array.toList_map,Ol,mJ] at g
 obtain⟨p,k,rfl⟩:=g
 obtain⟨z,d,e⟩:=n j p k
 rw[y] at d;cases d
 simp only[mJ] at e
 obtain⟨x,r,rfl⟩:=e
 exact⟨p,k,rfl,by rw[l],by rw[l];exact aJ s r⟩
theorem Pu {d:Bool}(op:Value->Value->Sem Value)(c: ∀k x y,op (.int k x) (.int k y)=pure (.int k (if d then (if y>x then y else x) else (if y<x then y else x)))):
  ∀{vs:List V} {xs:List Value} {v u:V} {x:Value},VR m v x->gZ m vs xs->NJ d v vs=some u->(xs= []->vs= [])-> ∃y,(xs.foldlM op x).run P w= .ok y w/\VR m u y
 | [], [],v,u,x,hv,_,he,_=>by simp only[NJ] at he;cases he;exact⟨x,rfl,hv⟩
 |b::vs,y::xs,v,u,x,hv,hvs,he,_=>by
  cases v with
  |int k n=>
   cases b with
   |int k' n'=>
    simp only[NJ] at he;split at he
    ·rename_i i
     subst i;obtain rfl:x= .int k n:=hv;obtain rfl:y= .int k n':=hvs.1
     obtain⟨z,f,g⟩:=Pu op c (v:= .int k (if d then (if n'>n then n' else n) else (if n'<n then n' else n))) rfl hvs.2 he (λe=>by
      subst e
      cases vs with
      |nil=>rfl
      |cons _ _=>exact hvs.2.elim)
     exact⟨z,by simp only[List.foldlM_cons,c];exact f,g⟩
    ·cases he
   |_=>simp [NJ] at he
  |_=>simp [NJ] at he
 | [],_::_,_,_,_,_,h,_,_=>h.elim
 |_::_, [],_,_,_,_,h,_,_=>h.elim
theorem DE (s:St m nt pv defs vars loc a)(N:HR P m h w)(O:gK m h.next){c:Call}(d3:o.op= .call c){i:I}(d:tI P pv defs c o.type=some (.op i))(j:cI (xv vars loc) h i=some (v,h')):Goal P m h w o a v h':=by
 obtain⟨U,q,g⟩:=c
 have ex: ∀b,U= .builtin b-> ∀sv:Sem Value,builtin b g o.type (q.map fun| .const _=>true|_=>false) (q.map a.eval)=(do pure (.value (←sv)))->
   execOp a.eval o=(do pure (.value (←sv))):=by
  intro b hb sv c5
  unfold execOp
  rw[d3]
  subst hb
  simp only[resolve,Go.invoke]
  exact c5
 unfold tI at d
 cases U with
 |value f=>
  exfalso
  cases f with
  |func f=>simp only at d;split at d<;>simp at d
  |_=>simp [qM] at d
 |invoke r mm=>
  simp only at d;split at d
  ·simp [qM] at d
  ·cases d
 |builtin b=>
  cases b<;>simp only at d<;>try (cases d;done)
  case clear=>
   split at d
   ·rename_i x t ha ht
    have J:q= #[x]:=by apply Array.toList_inj.1;simpa using ha
    have K:g= #[t]:=by apply Array.toList_inj.1;simpa using ht
    subst J;subst K;simp only[uV,qM] at d;obtain⟨e,a0,sz,L,d⟩:=d;split at d
    ·cases d
    ·rename_i a3
     have b2:AP P e sz=true:=by cases hq:AP P e sz with
      |true=>rfl
      |false=>exact absurd (.inr hq) a3
     have c3:sz≠0:=λe=>a3 (.inl e)
     simp only[qM] at d;obtain⟨zu,hz,cx,A,d⟩:=d;cases d;obtain⟨i2,z,G,Y,a7⟩:=Gn b2;have W:i2.size=sz:=by unfold iV at L;rw[G] at L;simpa using L
     obtain⟨b5,b3,_⟩:=kC m hz G Y;have l:=aJ s A;have a8:=qX a0
     have b0: ∀{w':World} {m':M},(Builtin.clear_ #[t] o.type #[a.eval x]).run P w= .ok (.tuple #[]) w'->v=V.undef->iO P m h w m' h' w'->Goal P m h w o a v h':=by
      intro w' m' h1 h2 h3;subst h2;exact aT.goal (s:=Builtin.clear_ #[t] o.type #[a.eval x]) ⟨.tuple #[],w',m',h1,VR.undef m',h3⟩ (ex _ rfl _ (by simp [Go.builtin]))
     simp only[cI] at j;split at j
     ·rename_i hx
      rw[hx] at l;cases j;have F:a.eval x= .slice none 0 0:=l;exact b0 (by simp [Builtin.clear_,F,run_underlying a8]) rfl (iO.refl N O)
     ·rename_i ad hx
      rw[hx] at l;cases j;have F:a.eval x= .slice (some ad) 0 0:=l;exact b0 (by simp [Builtin.clear_,F,run_underlying a8]) rfl (iO.refl N O)
     ·rename_i id d0 len cap hx
      rw[hx] at l;obtain⟨p,c,o',hp,F,d4,ho,_⟩:=l;split at j
      ·rename_i h0
       cases j;subst h0;exact b0 (by simp [Builtin.clear_,F,run_underlying a8]) rfl (iO.refl N O)
      ·rename_i h0
       obtain rfl:=ho om;split at j
       ·rename_i c9
        simp only[mJ] at j;obtain⟨h2,c1,j⟩:=j;cases j;have b1:0<zu.cells.length:=by rw[c9.1];omega
        have hv:=uZ b5 b1 (len*sz);obtain⟨w',iP,c0⟩:=Bx N O c1 hv (Ed b3 b1 _) hp;have b8:z.cells.size=sz:=by simpa using a7
        have c4:(zeroValue e).run P w= .ok z w:=by simp [zeroValue,typeInfo,G,Y]
        refine b0 ?_ rfl c0
        obtain⟨n,rfl⟩: ∃n,len=n+1:=⟨len- 1,om⟩
        have b7:(Builtin.zeroCells z.cells (n+1)).toList=((Array.range ((n+1)*sz)).map (z.cells[· %z.cells.size]!)).toList:=by
         unfold Builtin.zeroCells;rw[b8]
        simp [Builtin.clear_,F,run_underlying a8,c4];rw[b7,iP]
        rfl
       ·cases j
     ·cases j
   ·cases d
  case append=>
   split at d
   ·rename_i x y t u ha ht
    have J:q= #[x,y]:=by apply Array.toList_inj.1;simpa using ha
    have K:g= #[t,u]:=by apply Array.toList_inj.1;simpa using ht
    subst J;subst K;simp only[uV,qM] at d;obtain⟨e,a0,sz,L,d⟩:=d;split at d
    ·cases d
    ·rename_i a3
     have c3:sz≠0:=λe=>a3 (.inl e)
     have b2:AP P e sz=true:=by cases hq:AP P e sz with
      |true=>rfl
      |false=>exact absurd (.inr hq) a3
     obtain⟨i2,z,G,Y,a7⟩:=Gn b2;have W:i2.size=sz:=by unfold iV at L;rw[G] at L;simpa using L
     refine aT.goal (s:=Builtin.append_ #[t,u] o.type #[a.eval x,a.eval y]) ?_ (ex _ rfl _ (by simp [Go.builtin]));split at d
     ·rename_i hu
      simp only[qM] at d;obtain⟨Q,hb,cx,A,cy,a6,d⟩:=d;cases d;have a9:i2.bytes=Q:=by unfold zW at hb;rw[G] at hb;simpa using hb
      simp only[cI] at j;split at j
      ·rename_i k ys hk c7
       have a1:=aJ s a6;obtain⟨ns,c8,b9,h1,Z⟩:=Km N a1 hk c7;obtain⟨ab,ac,d1⟩:=tW a1 hk;exact Sg N O (qX a0) G Y W a9 a7 (aJ s A) b9 h1 ⟨by rw[W];exact Z,.inl ⟨_,hu,by rw[d1];rfl,by rw[W];exact c8⟩⟩ j o.type
      ·cases j
     ·rename_i hu
      simp only[qM] at d;obtain⟨Q,hb,zu,c6,cx,A,cy,a6,d⟩:=d;cases d;have a9:i2.bytes=Q:=by unfold zW at hb;rw[G] at hb;simpa using hb
      simp only[cI] at j;have a1:=aJ s a6;split at j
      ·rename_i n c2
       rw[c2] at a1;split at j
       ·rename_i b6
        obtain⟨n0,nb,d5,nz⟩:=b6;obtain⟨b5,b3,_⟩:=kC m c6 G Y;have hv:=uZ b5 om (n.toNat*sz)
        have d2:a.eval y= .int .i64 ((n.toNat:Nat):Int):=by
         rw[show a.eval y= .int .i64 n from a1];congr 1;omega
        rw[d2];refine Sg N O (qX a0) G Y W a9 a7 (aJ s A) hv (Ed b3 om _) ⟨by simp [W],.inr ⟨_,hu,rfl,?_,om,λ_=>?_⟩⟩ j o.type
        ·rw[a9]
         have:((n.toNat:Nat):Int)=n:=om
         rw[this];exact nb
        ·apply Array.toList_inj.1
         simp [Builtin.zeroCells,a7]
       ·cases j
      ·cases j
     ·cases d
   ·cases d
  case cap=>
   split at d
   ·rename_i x t ha ht
    have J:q= #[x]:=by apply Array.toList_inj.1;simpa using ha
    have K:g= #[t]:=by apply Array.toList_inj.1;simpa using ht
    subst J;subst K;split at d
    ·rename_i e hu
     simp only[mJ,dR.op.injEq] at d;obtain⟨cx,A,rfl⟩:=d;have l:=aJ s A;simp only[cI] at j;refine aT.goal (s:=Builtin.cap_ #[t] o.type #[a.eval x]) ?_ (ex _ rfl _ (by simp [Go.builtin]));split at j
     ·rename_i hx
      rw[hx] at l;cases j;refine aT.still N O (x:= .int .i64 0) ?_ rfl;rw[show a.eval x= .slice none 0 0 from l];simp [Builtin.cap_,run_underlying hu,goInt]
     ·rename_i id d0 len c hx
      rw[hx] at l;split at j
      ·cases j
       obtain⟨p,c',o',hp,F,_,_,rfl,rfl⟩:=l;refine aT.still N O (x:= .int .i64 c') ?_ rfl;rw[F];simp [Builtin.cap_,run_underlying hu,goInt]
      ·cases j
     ·cases j
    ·cases d
   ·cases d
  case copy=>
   split at d
   ·rename_i x y t u ha ht
    have J:q= #[x,y]:=by apply Array.toList_inj.1;simpa using ha
    have K:g= #[t,u]:=by apply Array.toList_inj.1;simpa using ht
    subst J;subst K;simp only[uV,qM] at d;obtain⟨e,a0,sz,L,d⟩:=d;split at d
    ·cases d
    ·simp only[qM] at d
     obtain⟨cx,A,cy,a6,d⟩:=d;cases d;exact aT.goal (s:=Builtin.copy_ #[t,u] o.type #[a.eval x,a.eval y]) (JP N O (qX a0) L (aJ s A) (aJ s a6) j o.type) (ex _ rfl _ (by simp [Go.builtin]))
   ·cases d
  case len=>
   split at d
   ·rename_i x t ha ht
    have J:q= #[x]:=by apply Array.toList_inj.1;simpa using ha
    have K:g= #[t]:=by apply Array.toList_inj.1;simpa using ht
    subst J;subst K;split at d
    ·rename_i e hu
     simp only[mJ,dR.op.injEq] at d;obtain⟨cx,A,rfl⟩:=d;simp only[cI,mJ] at j;obtain⟨n,hn,j⟩:=j;cases j;obtain⟨b,c,F⟩:=tW (aJ s A) hn;refine aT.goal (s:=Builtin.len_ #[t] o.type #[a.eval x]) (aT.still N O (x:= .int .i64 n) ?_ rfl) (ex _ rfl _ (by simp [Go.builtin]));rw[F];simp [Builtin.len_,run_underlying hu,goInt]
    ·rename_i k e hu
     simp only[mJ,dR.op.injEq] at d;obtain⟨cx,A,rfl⟩:=d;have l:=aJ s A;simp only[cI] at j;refine aT.goal (s:=Builtin.len_ #[t] o.type #[a.eval x]) ?_ (ex _ rfl _ (by simp [Go.builtin]));split at j
     ·rename_i hx
      rw[hx] at l;cases j;refine aT.still N O (x:= .int .i64 0) ?_ rfl;rw[show a.eval x= .map none from l];simp [Builtin.len_,run_underlying hu,goInt]
     ·rename_i id hx
      rw[hx] at l;split at j
      ·rename_i es hg
       cases j;obtain⟨p,hp,F⟩:=l;obtain⟨p',a5,a4,R,hb,Z,_⟩:=N.live id _ hg;rw[hp] at a5;cases a5;refine aT.still N O (x:= .int .i64 a4.size) ?_ (by rw[Z];rfl);rw[F];have a2:(getObj p.1).run P w= .ok (.map a4 R) w:=by simp [getObj,Sem.run,hb]
       simp [Builtin.len_,run_underlying hu,goInt,a2]
      ·rename_i sh es hg
       cases j;obtain⟨p,hp,F⟩:=l;obtain⟨p',a5,_,a4,R,hb,Z,_⟩:=N.live id _ hg;rw[hp] at a5;cases a5;refine aT.still N O (x:= .int .i64 a4.size) ?_ (by rw[Z];rfl);rw[F];have a2:(getObj p.1).run P w= .ok (.map a4 R) w:=by simp [getObj,Sem.run,hb]
       simp [Builtin.len_,run_underlying hu,goInt,a2]
      ·cases j
     ·cases j
    ·cases d
   ·cases d
  case max=>
   simp only[mJ,dR.op.injEq] at d;obtain⟨cx,A,rfl⟩:=d;have B:=iM s A;simp only[cI] at j;refine aT.goal (s:=Builtin.max_ g o.type (q.map a.eval)) ?_ (ex _ rfl _ (by simp [Go.builtin]))
   cases hm:cx.map (xv vars loc) with
   |nil=>simp [hm] at j
   |cons u us=>
    rw[hm] at B;simp only[hm,mJ] at j;obtain⟨r,b4,j⟩:=j;cases j
    cases Z:q.toList.map a.eval with
    |nil=>rw[Z] at B;exact B.elim
    |cons x xs=>
     rw[Z] at B;obtain⟨y,h1,h2⟩:=Pu (P:=P) (w:=w) Builtin.max2 (λk x y=>by simp [Builtin.max2]) B.1 B.2 b4 (λe=>by subst e;cases us<;>first|rfl|exact B.2.elim);refine aT.still N O (x:=y) ?_ h2;unfold Builtin.max_;rw[Array.toList_map,Z];exact h1
  case min=>
   simp only[mJ,dR.op.injEq] at d;obtain⟨cx,A,rfl⟩:=d;have B:=iM s A;simp only[cI] at j;refine aT.goal (s:=Builtin.min_ g o.type (q.map a.eval)) ?_ (ex _ rfl _ (by simp [Go.builtin]))
   cases hm:cx.map (xv vars loc) with
   |nil=>simp [hm] at j
   |cons u us=>
    rw[hm] at B;simp only[hm,mJ] at j;obtain⟨r,b4,j⟩:=j;cases j
    cases Z:q.toList.map a.eval with
    |nil=>rw[Z] at B;exact B.elim
    |cons x xs=>
     rw[Z] at B;obtain⟨y,h1,h2⟩:=Pu (P:=P) (w:=w) Builtin.min2 (λk x y=>by simp [Builtin.min2]) B.1 B.2 b4 (λe=>by subst e;cases us<;>first|rfl|exact B.2.elim);refine aT.still N O (x:=y) ?_ h2;unfold Builtin.min_;rw[Array.toList_map,Z];exact h1
end
end Go.Ay
