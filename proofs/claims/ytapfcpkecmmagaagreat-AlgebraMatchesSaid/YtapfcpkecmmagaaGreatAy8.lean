/- One operation, whole. -/
import Derived.Test.YtapfcpkecmmagaaGreatAy7
namespace Go.Ay
open Go
def Goal (P:Program)(m:M)(h:H)(w:World)(o:Oper)(a:Act)(v:V)(h':H):Prop:=
 ∃x w' m',Yields P o a w x w'/\VR m' v x/\fY P m h w m' h' w'
section
variable {P:Program} {m:M} {h:H} {w:World} {o:Oper} {a:Act} {v:V} {h':H}
theorem aU.goal {s:Sem Value}(c:aU P m h w s v h')(d:execOp a.eval o=(do pure (.value (←s)))):Goal P m h w o a v h':=by
 obtain⟨x,g,b,f,e,i⟩:=c;exact⟨x,g,b,.inl (by rw[d];simp [f]),e,i⟩
theorem xG (c:HR P m h w)(b:fL m h.next){x:Value}(d:execOp a.eval o=pure (.value x))(e:VR m v x):Goal P m h w o a v h:=
 ⟨x,w,m,.inl (by rw[d];rfl),e,fY.refl c b⟩
theorem sF {s:Sem Unit}{w':World}{b:M}(e:execOp a.eval o=(do s;pure .skip))(c:s.run P w= .ok () w')(d:fY P m h w b h' w'):Goal P m h w o a V.undef h':=
 ⟨undef,w',b,.inr ⟨by rw[e];simp [c],rfl⟩,VR.undef b,d⟩
theorem nI {t:TypeId}{k:IntKind}(h:isInt P t=some k):P.underlying t=some (.int k):=by
 unfold isInt at h;split at h
 ·cases h;assumption
 ·cases h
theorem lY {t e:TypeId}(h:uZ P t=some e):P.underlying t=some (.slice e):=by
 unfold uZ at h;split at h
 ·cases h;assumption
 ·cases h
theorem Et {t:TypeId}{i:Nat}{f:Field}(h:Hc P t i=some f): ∃fs,P.underlying t=some (.struct fs)/\fs[i]? =some f:=by
 unfold Hc at h;split at h
 ·exact⟨_,by assumption,h⟩
 ·cases h
variable {nt:Nat} {pv defs:List Nat} {vars loc:List V}
theorem jM (s:St m nt pv defs vars loc a){c:Option Operand}{xs:Option X}(b:qQ pv defs c=some xs):Ml m (xs.map (xv vars loc)) (c.map a.eval):=by
 cases c with
 |none=>simp only[qQ] at b;cases b;trivial
 |some o=>
  simp only[qQ,jA] at b;obtain⟨x,d,rfl⟩:=b;exact aJ s d
theorem Jf (s:St m nt pv defs vars loc a){c:Array (Nat×Operand)}{f:Nat×Operand->X->Nat×X}{g:List (Nat×X)}
  (r:cV (c.toList.map λp=>(fC pv defs p.2).map (f p))=some g) (k: ∀p x,(f p x).2=x):
  g.length=(c.map λ(i,x)=>(i,a.eval x)).size/\ ∀(j:Nat) (b:Nat×X) (q:Nat×Value),g[j]? =some b->(c.map λ(i,x)=>(i,a.eval x)).toList[j]? =some q->
   ∃p,c.toList[j]? =some p/\q.1=p.1/\b=f p b.2/\VR m (xv vars loc b.2) q.2:=by
 obtain⟨u,z⟩:=gO r
 refine⟨by simpa using u,λj b q y l=>?_⟩
 simp only[Array.toList_map,Lc,jA] at l
 obtain⟨p,n,rfl⟩:=l
 obtain⟨l,e,d⟩:=z j p n
 rw[y] at e;cases e
 simp only[jA] at d
 obtain⟨x,t,rfl⟩:=d
 exact⟨p,n,rfl,by rw[k],by rw[k];exact aJ s t⟩
theorem Aw {d:Bool}(op:Value->Value->Sem Value)(c: ∀k x y,op (.int k x) (.int k y)=pure (.int k (if d then (if y>x then y else x) else (if y<x then y else x)))):
  ∀{vs:List V} {xs:List Value} {v u:V} {x:Value},VR m v x->fP m vs xs->Tq d v vs=some u->(xs= []->vs= [])-> ∃y,(xs.foldlM op x).run P w= .ok y w/\VR m u y
 | [], [],v,u,x,hv,_,he,_=>by simp only[Tq] at he;cases he;exact⟨x,rfl,hv⟩
 |b::vs,y::xs,v,u,x,hv,hvs,he,_=>by
  cases v with
  |int k n=>
   cases b with
   |int k' n'=>
    simp only[Tq] at he;split at he
    ·rename_i g
     subst g;obtain rfl:x= .int k n:=hv;obtain rfl:y= .int k n':=hvs.1
     obtain⟨z,f,i⟩:=Aw op c (v:= .int k (if d then (if n'>n then n' else n) else (if n'<n then n' else n))) rfl hvs.2 he (λe=>by
      subst e
      cases vs with
      |nil=>rfl
      |cons _ _=>exact hvs.2.elim)
     exact⟨z,by simp only[List.foldlM_cons,c];exact f,i⟩
    ·cases he
   |_=>simp [Tq] at he
  |_=>simp [Tq] at he
 | [],_::_,_,_,_,_,h,_,_=>h.elim
 |_::_, [],_,_,_,_,h,_,_=>h.elim
theorem Na (s:St m nt pv defs vars loc a)(N:HR P m h w)(Q:fL m h.next){c:Call}(d2:o.op= .call c){i:I}(d:mY P pv defs c o.type=some (.op i))(j:cZ (xv vars loc) h i=some (v,h')):Goal P m h w o a v h':=by
 obtain⟨U,l,g⟩:=c
 have ex: ∀b,U= .builtin b-> ∀sv:Sem Value,builtin b g o.type (l.map fun| .const _=>true|_=>false) (l.map a.eval)=(do pure (.value (←sv)))->
   execOp a.eval o=(do pure (.value (←sv))):=by
  intro b hb sv c2
  unfold execOp
  rw[d2]
  subst hb
  simp only[resolve,Go.invoke]
  exact c2
 unfold mY at d
 cases U with
 |value f=>
  exfalso
  cases f with
  |func f=>simp only at d;split at d<;>simp at d
  |_=>simp [lT] at d
 |invoke r mm=>
  simp only at d;split at d
  ·simp [lT] at d
  ·cases d
 |builtin b=>
  cases b<;>simp only at d<;>try (cases d;done)
  case clear=>
   split at d
   ·rename_i x t ha ht
    have J:l= #[x]:=by apply Array.toList_inj.1;simpa using ha
    have K:g= #[t]:=by apply Array.toList_inj.1;simpa using ht
    subst J;subst K;simp only[oS,lT] at d;obtain⟨e,Z,R,L,d⟩:=d;split at d
    ·cases d
    ·rename_i a1
     have b3:Lf P e R=true:=by cases hq:Lf P e R with
      |true=>rfl
      |false=>exact absurd (.inr hq) a1
     have c8:R≠0:=λe=>a1 (.inl e)
     simp only[lT] at d;obtain⟨zu,hz,cx,q,d⟩:=d;cases d;obtain⟨i2,z,G,W,a0⟩:=uV b3;have Y:i2.size=R:=by unfold gE at L;rw[G] at L;simpa using L
     obtain⟨b2,a9,_⟩:=iS m hz G W;have A:=aJ s q;have a6:=lY Z
     have a4: ∀{w':World} {m':M},(Builtin.clear_ #[t] o.type #[a.eval x]).run P w= .ok (.tuple #[]) w'->v=V.undef->fY P m h w m' h' w'->Goal P m h w o a v h':=by
      intro w' m' h1 h2 h3;subst h2;exact aU.goal (s:=Builtin.clear_ #[t] o.type #[a.eval x]) ⟨.tuple #[],w',m',h1,VR.undef m',h3⟩ (ex _ rfl _ (by simp [Go.builtin]))
     simp only[cZ] at j;split at j
     ·rename_i hx
      rw[hx] at A;cases j;have F:a.eval x= .slice none 0 0:=A;exact a4 (by simp [Builtin.clear_,F,run_underlying a6]) rfl (fY.refl N Q)
     ·rename_i ad hx
      rw[hx] at A;cases j;have F:a.eval x= .slice (some ad) 0 0:=A;exact a4 (by simp [Builtin.clear_,F,run_underlying a6]) rfl (fY.refl N Q)
     ·rename_i id c6 len cap hx
      rw[hx] at A;obtain⟨p,c,o',hp,F,d4,ho,_⟩:=A;split at j
      ·rename_i h0
       cases j;subst h0;exact a4 (by simp [Builtin.clear_,F,run_underlying a6]) rfl (fY.refl N Q)
      ·rename_i h0
       obtain rfl:=ho om;split at j
       ·rename_i d1
        simp only[jA] at j;obtain⟨h2,b8,j⟩:=j;cases j;have a7:0<zu.cells.length:=by rw[d1.1];omega
        have hv:=oN b2 a7 (len*R);obtain⟨w',iA,b4⟩:=sP N Q b8 hv (uF a9 a7 _) hp;have b6:z.cells.size=R:=by simpa using a0
        have c7:(zeroValue e).run P w= .ok z w:=by simp [zeroValue,typeInfo,G,W]
        refine a4 ?_ rfl b4
        obtain⟨n,rfl⟩: ∃n,len=n+1:=⟨len- 1,om⟩
        have b5:(Builtin.zeroCells z.cells (n+1)).toList=((Array.range ((n+1)*R)).map (z.cells[· %z.cells.size]!)).toList:=by
         unfold Builtin.zeroCells;rw[b6]
        simp [Builtin.clear_,F,run_underlying a6,c7];rw[b5,iA]
        rfl
       ·cases j
     ·cases j
   ·cases d
  case append=>
   split at d
   ·rename_i x y t u ha ht
    have J:l= #[x,y]:=by apply Array.toList_inj.1;simpa using ha
    have K:g= #[t,u]:=by apply Array.toList_inj.1;simpa using ht
    subst J;subst K;simp only[oS,lT] at d;obtain⟨e,Z,R,L,d⟩:=d;split at d
    ·cases d
    ·rename_i a1
     have c8:R≠0:=λe=>a1 (.inl e)
     have b3:Lf P e R=true:=by cases hq:Lf P e R with
      |true=>rfl
      |false=>exact absurd (.inr hq) a1
     obtain⟨i2,z,G,W,a0⟩:=uV b3;have Y:i2.size=R:=by unfold gE at L;rw[G] at L;simpa using L
     refine aU.goal (s:=Builtin.append_ #[t,u] o.type #[a.eval x,a.eval y]) ?_ (ex _ rfl _ (by simp [Go.builtin]));split at d
     ·rename_i hu
      simp only[lT] at d;obtain⟨O,hb,cx,q,cy,a3,d⟩:=d;cases d;have a5:i2.bytes=O:=by unfold rF at hb;rw[G] at hb;simpa using hb
      simp only[cZ] at j;split at j
      ·rename_i k ys hk c9
       have a2:=aJ s a3;obtain⟨ns,c5,b9,h1,hl⟩:=yD N a2 hk c9;obtain⟨ab,ac,d0⟩:=nL a2 hk;exact Ea N Q (lY Z) G W Y a5 a0 (aJ s q) b9 h1 ⟨by rw[Y];exact hl,.inl ⟨_,hu,by rw[d0];rfl,by rw[Y];exact c5⟩⟩ j o.type
      ·cases j
     ·rename_i hu
      simp only[lT] at d;obtain⟨O,hb,zu,c3,cx,q,cy,a3,d⟩:=d;cases d;have a5:i2.bytes=O:=by unfold rF at hb;rw[G] at hb;simpa using hb
      simp only[cZ] at j;have a2:=aJ s a3;split at j
      ·rename_i n d3
       rw[d3] at a2;split at j
       ·rename_i b0
        obtain⟨n0,nb,d5,nz⟩:=b0;obtain⟨b2,a9,_⟩:=iS m c3 G W;have hv:=oN b2 om (n.toNat*R)
        have c4:a.eval y= .int .i64 ((n.toNat:Nat):Int):=by
         rw[show a.eval y= .int .i64 n from a2];congr 1;omega
        rw[c4];refine Ea N Q (lY Z) G W Y a5 a0 (aJ s q) hv (uF a9 om _) ⟨by simp [Y],.inr ⟨_,hu,rfl,?_,om,λ_=>?_⟩⟩ j o.type
        ·rw[a5]
         have:((n.toNat:Nat):Int)=n:=om
         rw[this];exact nb
        ·apply Array.toList_inj.1
         simp [Builtin.zeroCells,a0]
       ·cases j
      ·cases j
     ·cases d
   ·cases d
  case cap=>
   split at d
   ·rename_i x t ha ht
    have J:l= #[x]:=by apply Array.toList_inj.1;simpa using ha
    have K:g= #[t]:=by apply Array.toList_inj.1;simpa using ht
    subst J;subst K;split at d
    ·rename_i e hu
     simp only[jA,dV.op.injEq] at d;obtain⟨cx,q,rfl⟩:=d;have A:=aJ s q;simp only[cZ] at j;refine aU.goal (s:=Builtin.cap_ #[t] o.type #[a.eval x]) ?_ (ex _ rfl _ (by simp [Go.builtin]));split at j
     ·rename_i hx
      rw[hx] at A;cases j;refine aU.still N Q (x:= .int .i64 0) ?_ rfl;rw[show a.eval x= .slice none 0 0 from A];simp [Builtin.cap_,run_underlying hu,goInt]
     ·rename_i id c6 len c hx
      rw[hx] at A;split at j
      ·cases j
       obtain⟨p,c',o',hp,F,_,_,rfl,rfl⟩:=A;refine aU.still N Q (x:= .int .i64 c') ?_ rfl;rw[F];simp [Builtin.cap_,run_underlying hu,goInt]
      ·cases j
     ·cases j
    ·cases d
   ·cases d
  case copy=>
   split at d
   ·rename_i x y t u ha ht
    have J:l= #[x,y]:=by apply Array.toList_inj.1;simpa using ha
    have K:g= #[t,u]:=by apply Array.toList_inj.1;simpa using ht
    subst J;subst K;simp only[oS,lT] at d;obtain⟨e,Z,R,L,d⟩:=d;split at d
    ·cases d
    ·simp only[lT] at d
     obtain⟨cx,q,cy,a3,d⟩:=d;cases d;exact aU.goal (s:=Builtin.copy_ #[t,u] o.type #[a.eval x,a.eval y]) (Se N Q (lY Z) L (aJ s q) (aJ s a3) j o.type) (ex _ rfl _ (by simp [Go.builtin]))
   ·cases d
  case len=>
   split at d
   ·rename_i x t ha ht
    have J:l= #[x]:=by apply Array.toList_inj.1;simpa using ha
    have K:g= #[t]:=by apply Array.toList_inj.1;simpa using ht
    subst J;subst K;split at d
    ·rename_i e hu
     simp only[jA,dV.op.injEq] at d;obtain⟨cx,q,rfl⟩:=d;simp only[cZ,jA] at j;obtain⟨n,hn,j⟩:=j;cases j;obtain⟨b,c,F⟩:=nL (aJ s q) hn;refine aU.goal (s:=Builtin.len_ #[t] o.type #[a.eval x]) (aU.still N Q (x:= .int .i64 n) ?_ rfl) (ex _ rfl _ (by simp [Go.builtin]));rw[F];simp [Builtin.len_,run_underlying hu,goInt]
    ·rename_i k e hu
     simp only[jA,dV.op.injEq] at d;obtain⟨cx,q,rfl⟩:=d;have A:=aJ s q;simp only[cZ] at j;refine aU.goal (s:=Builtin.len_ #[t] o.type #[a.eval x]) ?_ (ex _ rfl _ (by simp [Go.builtin]));split at j
     ·rename_i hx
      rw[hx] at A;cases j;refine aU.still N Q (x:= .int .i64 0) ?_ rfl;rw[show a.eval x= .map none from A];simp [Builtin.len_,run_underlying hu,goInt]
     ·rename_i id hx
      rw[hx] at A;split at j
      ·rename_i es hg
       cases j;obtain⟨p,hp,F⟩:=A;obtain⟨p',c0,b7,a8,hb,hl,_⟩:=N.live id _ hg;rw[hp] at c0;cases c0;refine aU.still N Q (x:= .int .i64 b7.size) ?_ (by rw[hl];rfl);rw[F];have c1:(getObj p.1).run P w= .ok (.map b7 a8) w:=by simp [getObj,Sem.run,hb]
       simp [Builtin.len_,run_underlying hu,goInt,c1]
      ·cases j
     ·cases j
    ·cases d
   ·cases d
  case max=>
   simp only[jA,dV.op.injEq] at d;obtain⟨cx,q,rfl⟩:=d;have B:=fR s q;simp only[cZ] at j;refine aU.goal (s:=Builtin.max_ g o.type (l.map a.eval)) ?_ (ex _ rfl _ (by simp [Go.builtin]))
   cases hm:cx.map (xv vars loc) with
   |nil=>simp [hm] at j
   |cons u us=>
    rw[hm] at B;simp only[hm,jA] at j;obtain⟨r,b1,j⟩:=j;cases j
    cases hl:l.toList.map a.eval with
    |nil=>rw[hl] at B;exact B.elim
    |cons x xs=>
     rw[hl] at B;obtain⟨y,h1,h2⟩:=Aw (P:=P) (w:=w) Builtin.max2 (λk x y=>by simp [Builtin.max2]) B.1 B.2 b1 (λe=>by subst e;cases us<;>first|rfl|exact B.2.elim);refine aU.still N Q (x:=y) ?_ h2;unfold Builtin.max_;rw[Array.toList_map,hl];exact h1
  case min=>
   simp only[jA,dV.op.injEq] at d;obtain⟨cx,q,rfl⟩:=d;have B:=fR s q;simp only[cZ] at j;refine aU.goal (s:=Builtin.min_ g o.type (l.map a.eval)) ?_ (ex _ rfl _ (by simp [Go.builtin]))
   cases hm:cx.map (xv vars loc) with
   |nil=>simp [hm] at j
   |cons u us=>
    rw[hm] at B;simp only[hm,jA] at j;obtain⟨r,b1,j⟩:=j;cases j
    cases hl:l.toList.map a.eval with
    |nil=>rw[hl] at B;exact B.elim
    |cons x xs=>
     rw[hl] at B;obtain⟨y,h1,h2⟩:=Aw (P:=P) (w:=w) Builtin.min2 (λk x y=>by simp [Builtin.min2]) B.1 B.2 b1 (λe=>by subst e;cases us<;>first|rfl|exact B.2.elim);refine aU.still N Q (x:=y) ?_ h2;unfold Builtin.min_;rw[Array.toList_map,hl];exact h1
end
end Go.Ay
