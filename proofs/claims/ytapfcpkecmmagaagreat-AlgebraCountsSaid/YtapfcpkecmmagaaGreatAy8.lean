/- One operation, whole. -/
import Derived.Test.YtapfcpkecmmagaaGreatAy7
namespace Go.Ay
open Go
def Goal (P:Program)(m:M)(h:H)(w:World)(o:Oper)(a:Act)(v:V)(h':H):Prop:=
 ∃x w' m',Yields P o a w x w'/\VR m' v x/\fU P m h w m' h' w'
section
variable {P:Program} {m:M} {h:H} {w:World} {o:Oper} {a:Act} {v:V} {h':H}
theorem aU.goal {s:Sem Value}(c:aU P m h w s v h')(g:execOp a.eval o=(do pure (.value (←s)))):Goal P m h w o a v h':=by
 obtain⟨x,f,e,b,d,i⟩:=c;exact⟨x,f,e,.inl (by rw[g];simp [b]),d,i⟩
theorem wV (d:HR P m h w)(c:fK m h.next){x:Value}(e:execOp a.eval o=pure (.value x))(b:VR m v x):Goal P m h w o a v h:=
 ⟨x,w,m,.inl (by rw[e];rfl),b,fU.refl d c⟩
theorem sN {s:Sem Unit}{w':World}{b:M}(e:execOp a.eval o=(do s;pure .skip))(d:s.run P w= .ok () w')(c:fU P m h w b h' w'):Goal P m h w o a V.undef h':=
 ⟨undef,w',b,.inr ⟨by rw[e];simp [d],rfl⟩,VR.undef b,c⟩
theorem mT {t:TypeId}{k:IntKind}(h:isInt P t=some k):P.underlying t=some (.int k):=by
 unfold isInt at h;split at h
 ·cases h;assumption
 ·cases h
theorem lV {t e:TypeId}(h:uW P t=some e):P.underlying t=some (.slice e):=by
 unfold uW at h;split at h
 ·cases h;assumption
 ·cases h
theorem Er {t:TypeId}{i:Nat}{f:Field}(h:Fm P t i=some f): ∃fs,P.underlying t=some (.struct fs)/\fs[i]? =some f:=by
 unfold Fm at h;split at h
 ·exact⟨_,by assumption,h⟩
 ·cases h
variable {nt:Nat} {pv defs:List Nat} {vars loc:List V}
theorem jM (s:St m nt pv defs vars loc a){c:Option Operand}{xs:Option X}(b:qE pv defs c=some xs):My m (xs.map (xv vars loc)) (c.map a.eval):=by
 cases c with
 |none=>simp only[qE] at b;cases b;trivial
 |some o=>
  simp only[qE,jB] at b;obtain⟨x,d,rfl⟩:=b;exact aJ s d
theorem Ig (s:St m nt pv defs vars loc a){c:Array (Nat×Operand)}{f:Nat×Operand->X->Nat×X}{g:List (Nat×X)}
  (y:cU (c.toList.map λp=>(fC pv defs p.2).map (f p))=some g) (l: ∀p x,(f p x).2=x):
  g.length=(c.map λ(i,x)=>(i,a.eval x)).size/\ ∀(j:Nat) (b:Nat×X) (q:Nat×Value),g[j]? =some b->(c.map λ(i,x)=>(i,a.eval x)).toList[j]? =some q->
   ∃p,c.toList[j]? =some p/\q.1=p.1/\b=f p b.2/\VR m (xv vars loc b.2) q.2:=by
 obtain⟨r,u⟩:=gW y
 refine⟨by simpa using r,λj b q t n=>?_⟩
 simp only[Array.toList_map,Kt,jB] at n
 obtain⟨p,k,rfl⟩:=n
 obtain⟨n,e,d⟩:=u j p k
 rw[t] at e;cases e
 simp only[jB] at d
 obtain⟨x,z,rfl⟩:=d
 exact⟨p,k,rfl,by rw[l],by rw[l];exact aJ s z⟩
theorem zI {d:Bool}(op:Value->Value->Sem Value)(c: ∀k x y,op (.int k x) (.int k y)=pure (.int k (if d then (if y>x then y else x) else (if y<x then y else x)))):
  ∀{vs:List V} {xs:List Value} {v u:V} {x:Value},VR m v x->fL m vs xs->Tc d v vs=some u->(xs= []->vs= [])-> ∃y,(xs.foldlM op x).run P w= .ok y w/\VR m u y
 | [], [],v,u,x,hv,_,he,_=>by simp only[Tc] at he;cases he;exact⟨x,rfl,hv⟩
 |b::vs,y::xs,v,u,x,hv,hvs,he,_=>by
  cases v with
  |int k n=>
   cases b with
   |int k' n'=>
    simp only[Tc] at he;split at he
    ·rename_i i
     subst i;obtain rfl:x= .int k n:=hv;obtain rfl:y= .int k n':=hvs.1
     obtain⟨z,f,g⟩:=zI op c (v:= .int k (if d then (if n'>n then n' else n) else (if n'<n then n' else n))) rfl hvs.2 he (λe=>by
      subst e
      cases vs with
      |nil=>rfl
      |cons _ _=>exact hvs.2.elim)
     exact⟨z,by simp only[List.foldlM_cons,c];exact f,g⟩
    ·cases he
   |_=>simp [Tc] at he
  |_=>simp [Tc] at he
 | [],_::_,_,_,_,_,h,_,_=>h.elim
 |_::_, [],_,_,_,_,h,_,_=>h.elim
theorem Lb (s:St m nt pv defs vars loc a)(N:HR P m h w)(Q:fK m h.next){c:Call}(c6:o.op= .call c){i:I}(d:mX P pv defs c o.type=some (.op i))(j:cW (xv vars loc) h i=some (v,h')):Goal P m h w o a v h':=by
 obtain⟨R,l,g⟩:=c
 have ex: ∀b,R= .builtin b-> ∀sv:Sem Value,builtin b g o.type (l.map fun| .const _=>true|_=>false) (l.map a.eval)=(do pure (.value (←sv)))->
   execOp a.eval o=(do pure (.value (←sv))):=by
  intro b hb sv d2
  unfold execOp
  rw[c6]
  subst hb
  simp only[resolve,Go.invoke]
  exact d2
 unfold mX at d
 cases R with
 |value f=>
  exfalso
  cases f with
  |func f=>simp only at d;split at d<;>simp at d
  |_=>simp [lJ] at d
 |invoke r mm=>
  simp only at d;split at d
  ·simp [lJ] at d
  ·cases d
 |builtin b=>
  cases b<;>simp only at d<;>try (cases d;done)
  case clear=>
   split at d
   ·rename_i x t ha ht
    have L:l= #[x]:=by apply Array.toList_inj.1;simpa using ha
    have J:g= #[t]:=by apply Array.toList_inj.1;simpa using ht
    subst L;subst J;simp only[oF,lJ] at d;obtain⟨e,W,U,K,d⟩:=d;split at d
    ·cases d
    ·rename_i a3
     have b4:Kv P e U=true:=by cases hq:Kv P e U with
      |true=>rfl
      |false=>exact absurd (.inr hq) a3
     have d3:U≠0:=λe=>a3 (.inl e)
     simp only[lJ] at d;obtain⟨zu,hz,cx,q,d⟩:=d;cases d;obtain⟨i2,z,G,a0,a4⟩:=vI b4;have Z:i2.size=U:=by unfold fX at K;rw[G] at K;simpa using K
     obtain⟨a9,b3,_⟩:=iM m hz G a0;have A:=aJ s q;have a5:=lV W
     have a6: ∀{w':World} {m':M},(Builtin.clear_ #[t] o.type #[a.eval x]).run P w= .ok (.tuple #[]) w'->v=V.undef->fU P m h w m' h' w'->Goal P m h w o a v h':=by
      intro w' m' h1 h2 h3;subst h2;exact aU.goal (s:=Builtin.clear_ #[t] o.type #[a.eval x]) ⟨.tuple #[],w',m',h1,VR.undef m',h3⟩ (ex _ rfl _ (by simp [Go.builtin]))
     simp only[cW] at j;split at j
     ·rename_i Y
      rw[Y] at A;cases j;have F:a.eval x= .slice none 0 0:=A;exact a6 (by simp [Builtin.clear_,F,run_underlying a5]) rfl (fU.refl N Q)
     ·rename_i ad Y
      rw[Y] at A;cases j;have F:a.eval x= .slice (some ad) 0 0:=A;exact a6 (by simp [Builtin.clear_,F,run_underlying a5]) rfl (fU.refl N Q)
     ·rename_i id c7 len cap Y
      rw[Y] at A;obtain⟨p,c,o',hp,F,d6,ho,_⟩:=A;split at j
      ·rename_i h0
       cases j;subst h0;exact a6 (by simp [Builtin.clear_,F,run_underlying a5]) rfl (fU.refl N Q)
      ·rename_i h0
       obtain rfl:=ho om;split at j
       ·rename_i c8
        simp only[jB] at j;obtain⟨h2,c0,j⟩:=j;cases j;have a8:0<zu.cells.length:=by rw[c8.1];omega
        have hv:=oG a9 a8 (len*U);obtain⟨w',gY,c1⟩:=sK N Q c0 hv (uC b3 a8 _) hp;have b9:z.cells.size=U:=by simpa using a4
        have c3:(zeroValue e).run P w= .ok z w:=by simp [zeroValue,typeInfo,G,a0]
        refine a6 ?_ rfl c1
        obtain⟨n,rfl⟩: ∃n,len=n+1:=⟨len- 1,om⟩
        have b6:(Builtin.zeroCells z.cells (n+1)).toList=((Array.range ((n+1)*U)).map (z.cells[· %z.cells.size]!)).toList:=by
         unfold Builtin.zeroCells;rw[b9]
        simp [Builtin.clear_,F,run_underlying a5,c3];rw[b6,gY]
        rfl
       ·cases j
     ·cases j
   ·cases d
  case append=>
   split at d
   ·rename_i x y t u ha ht
    have L:l= #[x,y]:=by apply Array.toList_inj.1;simpa using ha
    have J:g= #[t,u]:=by apply Array.toList_inj.1;simpa using ht
    subst L;subst J;simp only[oF,lJ] at d;obtain⟨e,W,U,K,d⟩:=d;split at d
    ·cases d
    ·rename_i a3
     have d3:U≠0:=λe=>a3 (.inl e)
     have b4:Kv P e U=true:=by cases hq:Kv P e U with
      |true=>rfl
      |false=>exact absurd (.inr hq) a3
     obtain⟨i2,z,G,a0,a4⟩:=vI b4;have Z:i2.size=U:=by unfold fX at K;rw[G] at K;simpa using K
     refine aU.goal (s:=Builtin.append_ #[t,u] o.type #[a.eval x,a.eval y]) ?_ (ex _ rfl _ (by simp [Go.builtin]));split at d
     ·rename_i hu
      simp only[lJ] at d;obtain⟨O,hb,cx,q,cy,a1,d⟩:=d;cases d;have a7:i2.bytes=O:=by unfold rR at hb;rw[G] at hb;simpa using hb
      simp only[cW] at j;split at j
      ·rename_i k ys hk d0
       have a2:=aJ s a1;obtain⟨ns,d4,b8,h1,hl⟩:=yJ N a2 hk d0;obtain⟨ab,ac,c9⟩:=mY a2 hk;exact Ek N Q (lV W) G a0 Z a7 a4 (aJ s q) b8 h1 ⟨by rw[Z];exact hl,.inl ⟨_,hu,by rw[c9];rfl,by rw[Z];exact d4⟩⟩ j o.type
      ·cases j
     ·rename_i hu
      simp only[lJ] at d;obtain⟨O,hb,zu,c4,cx,q,cy,a1,d⟩:=d;cases d;have a7:i2.bytes=O:=by unfold rR at hb;rw[G] at hb;simpa using hb
      simp only[cW] at j;have a2:=aJ s a1;split at j
      ·rename_i n c5
       rw[c5] at a2;split at j
       ·rename_i b2
        obtain⟨n0,nb,d5,nz⟩:=b2;obtain⟨a9,b3,_⟩:=iM m c4 G a0;have hv:=oG a9 om (n.toNat*U)
        have d1:a.eval y= .int .i64 ((n.toNat:Nat):Int):=by
         rw[show a.eval y= .int .i64 n from a2];congr 1;omega
        rw[d1];refine Ek N Q (lV W) G a0 Z a7 a4 (aJ s q) hv (uC b3 om _) ⟨by simp [Z],.inr ⟨_,hu,rfl,?_,om,λ_=>?_⟩⟩ j o.type
        ·rw[a7]
         have:((n.toNat:Nat):Int)=n:=om
         rw[this];exact nb
        ·apply Array.toList_inj.1
         simp [Builtin.zeroCells,a4]
       ·cases j
      ·cases j
     ·cases d
   ·cases d
  case cap=>
   split at d
   ·rename_i x t ha ht
    have L:l= #[x]:=by apply Array.toList_inj.1;simpa using ha
    have J:g= #[t]:=by apply Array.toList_inj.1;simpa using ht
    subst L;subst J;split at d
    ·rename_i e hu
     simp only[jB,dR.op.injEq] at d;obtain⟨cx,q,rfl⟩:=d;have A:=aJ s q;simp only[cW] at j;refine aU.goal (s:=Builtin.cap_ #[t] o.type #[a.eval x]) ?_ (ex _ rfl _ (by simp [Go.builtin]));split at j
     ·rename_i Y
      rw[Y] at A;cases j;refine aU.still N Q (x:= .int .i64 0) ?_ rfl;rw[show a.eval x= .slice none 0 0 from A];simp [Builtin.cap_,run_underlying hu,goInt]
     ·rename_i id c7 len c Y
      rw[Y] at A;split at j
      ·cases j
       obtain⟨p,c',o',hp,F,_,_,rfl,rfl⟩:=A;refine aU.still N Q (x:= .int .i64 c') ?_ rfl;rw[F];simp [Builtin.cap_,run_underlying hu,goInt]
      ·cases j
     ·cases j
    ·cases d
   ·cases d
  case copy=>
   split at d
   ·rename_i x y t u ha ht
    have L:l= #[x,y]:=by apply Array.toList_inj.1;simpa using ha
    have J:g= #[t,u]:=by apply Array.toList_inj.1;simpa using ht
    subst L;subst J;simp only[oF,lJ] at d;obtain⟨e,W,U,K,d⟩:=d;split at d
    ·cases d
    ·simp only[lJ] at d
     obtain⟨cx,q,cy,a1,d⟩:=d;cases d;exact aU.goal (s:=Builtin.copy_ #[t,u] o.type #[a.eval x,a.eval y]) (Pv N Q (lV W) K (aJ s q) (aJ s a1) j o.type) (ex _ rfl _ (by simp [Go.builtin]))
   ·cases d
  case len=>
   split at d
   ·rename_i x t ha ht
    have L:l= #[x]:=by apply Array.toList_inj.1;simpa using ha
    have J:g= #[t]:=by apply Array.toList_inj.1;simpa using ht
    subst L;subst J;split at d
    ·rename_i e hu
     simp only[jB,dR.op.injEq] at d;obtain⟨cx,q,rfl⟩:=d;simp only[cW,jB] at j;obtain⟨n,hn,j⟩:=j;cases j;obtain⟨b,c,F⟩:=mY (aJ s q) hn;refine aU.goal (s:=Builtin.len_ #[t] o.type #[a.eval x]) (aU.still N Q (x:= .int .i64 n) ?_ rfl) (ex _ rfl _ (by simp [Go.builtin]));rw[F];simp [Builtin.len_,run_underlying hu,goInt]
    ·rename_i k e hu
     simp only[jB,dR.op.injEq] at d;obtain⟨cx,q,rfl⟩:=d;have A:=aJ s q;simp only[cW] at j;refine aU.goal (s:=Builtin.len_ #[t] o.type #[a.eval x]) ?_ (ex _ rfl _ (by simp [Go.builtin]));split at j
     ·rename_i Y
      rw[Y] at A;cases j;refine aU.still N Q (x:= .int .i64 0) ?_ rfl;rw[show a.eval x= .map none from A];simp [Builtin.len_,run_underlying hu,goInt]
     ·rename_i id Y
      rw[Y] at A;split at j
      ·rename_i es hg
       cases j;obtain⟨p,hp,F⟩:=A;obtain⟨p',b5,c2,b0,hb,hl,_⟩:=N.live id _ hg;rw[hp] at b5;cases b5;refine aU.still N Q (x:= .int .i64 c2.size) ?_ (by rw[hl];rfl);rw[F];have b7:(getObj p.1).run P w= .ok (.map c2 b0) w:=by simp [getObj,Sem.run,hb]
       simp [Builtin.len_,run_underlying hu,goInt,b7]
      ·cases j
     ·cases j
    ·cases d
   ·cases d
  case max=>
   simp only[jB,dR.op.injEq] at d;obtain⟨cx,q,rfl⟩:=d;have B:=fP s q;simp only[cW] at j;refine aU.goal (s:=Builtin.max_ g o.type (l.map a.eval)) ?_ (ex _ rfl _ (by simp [Go.builtin]))
   cases hm:cx.map (xv vars loc) with
   |nil=>simp [hm] at j
   |cons u us=>
    rw[hm] at B;simp only[hm,jB] at j;obtain⟨r,b1,j⟩:=j;cases j
    cases hl:l.toList.map a.eval with
    |nil=>rw[hl] at B;exact B.elim
    |cons x xs=>
     rw[hl] at B;obtain⟨y,h1,h2⟩:=zI (P:=P) (w:=w) Builtin.max2 (λk x y=>by simp [Builtin.max2]) B.1 B.2 b1 (λe=>by subst e;cases us<;>first|rfl|exact B.2.elim);refine aU.still N Q (x:=y) ?_ h2;unfold Builtin.max_;rw[Array.toList_map,hl];exact h1
  case min=>
   simp only[jB,dR.op.injEq] at d;obtain⟨cx,q,rfl⟩:=d;have B:=fP s q;simp only[cW] at j;refine aU.goal (s:=Builtin.min_ g o.type (l.map a.eval)) ?_ (ex _ rfl _ (by simp [Go.builtin]))
   cases hm:cx.map (xv vars loc) with
   |nil=>simp [hm] at j
   |cons u us=>
    rw[hm] at B;simp only[hm,jB] at j;obtain⟨r,b1,j⟩:=j;cases j
    cases hl:l.toList.map a.eval with
    |nil=>rw[hl] at B;exact B.elim
    |cons x xs=>
     rw[hl] at B;obtain⟨y,h1,h2⟩:=zI (P:=P) (w:=w) Builtin.min2 (λk x y=>by simp [Builtin.min2]) B.1 B.2 b1 (λe=>by subst e;cases us<;>first|rfl|exact B.2.elim);refine aU.still N Q (x:=y) ?_ h2;unfold Builtin.min_;rw[Array.toList_map,hl];exact h1
end
end Go.Ay
