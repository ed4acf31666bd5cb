/- One operation, whole. -/
import Derived.Test.YtcdbmkidaecdiaaGreatAy7
namespace Go.Ay
open Go
def Goal (P:Program)(m:M)(h:H)(w:World)(o:Oper)(a:Act)(v:V)(h':H):Prop:=
 ∃x w' m',Yields P o a w x w'/\VR m' v x/\iC P m h w m' h' w'
section
variable {P:Program} {m:M} {h:H} {w:World} {o:Oper} {a:Act} {v:V} {h':H}
theorem aT.goal {s:Sem Value}(c:aT P m h w s v h')(g:execOp a.eval o=(do pure (.value (←s)))):Goal P m h w o a v h':=by
 obtain⟨x,f,b,d,e,i⟩:=c;exact⟨x,f,b,.inl (by rw[g];simp [d]),e,i⟩
theorem Ju (e:HR P m h w)(b:fW m h.next){x:Value}(c:execOp a.eval o=pure (.value x))(d:VR m v x):Goal P m h w o a v h:=
 ⟨x,w,m,.inl (by rw[c];rfl),d,iC.refl e b⟩
theorem Bq {s:Sem Unit}{w':World}{b:M}(e:execOp a.eval o=(do s;pure .skip))(d:s.run P w= .ok () w')(c:iC P m h w b h' w'):Goal P m h w o a V.undef h':=
 ⟨undef,w',b,.inr ⟨by rw[e];simp [d],rfl⟩,VR.undef b,c⟩
theorem uC {t:TypeId}{k:IntKind}(h:isInt P t=some k):P.underlying t=some (.int k):=by
 unfold isInt at h;split at h
 ·cases h;assumption
 ·cases h
theorem rF {t e:TypeId}(h:Hs P t=some e):P.underlying t=some (.slice e):=by
 unfold Hs at h;split at h
 ·cases h;assumption
 ·cases h
theorem Tw {t:TypeId}{i:Nat}{f:Field}(h:Vi P t i=some f): ∃fs,P.underlying t=some (.struct fs)/\fs[i]? =some f:=by
 unfold Vi at h;split at h
 ·exact⟨_,by assumption,h⟩
 ·cases h
variable {nt:Nat} {pv defs:List Nat} {vars loc:List V}
theorem lV (s:St m nt pv defs vars loc a){c:Option Operand}{xs:Option X}(b:yJ pv defs c=some xs):DT m (xs.map (xv vars loc)) (c.map a.eval):=by
 cases c with
 |none=>simp only[yJ] at b;cases b;trivial
 |some o=>
  simp only[yJ,lT] at b;obtain⟨x,d,rfl⟩:=b;exact aJ s d
theorem Xy (s:St m nt pv defs vars loc a){c:Array (Nat×Operand)}{f:Nat×Operand->X->Nat×X}{ps:List (Nat×X)}
  (r:cI (c.toList.map λp=>(fL pv defs p.2).map (f p))=some ps) (l: ∀p x,(f p x).2=x):
  ps.length=(c.map λ(i,x)=>(i,a.eval x)).size/\ ∀(j:Nat) (b:Nat×X) (q:Nat×Value),ps[j]? =some b->(c.map λ(i,x)=>(i,a.eval x)).toList[j]? =some q->
   ∃p,c.toList[j]? =some p/\q.1=p.1/\b=f p b.2/\VR m (xv vars loc b.2) q.2:=by
 obtain⟨n,u⟩:=iO r
 refine⟨by simpa using n,λj b q t g=>?_⟩
 simp only[Array.toList_map,Wy,lT] at g
 obtain⟨p,k,rfl⟩:=g
 obtain⟨z,e,d⟩:=u j p k
 rw[t] at e;cases e
 simp only[lT] at d
 obtain⟨x,y,rfl⟩:=d
 exact⟨p,k,rfl,by rw[l],by rw[l];exact aJ s y⟩
theorem Nx {d:Bool}(op:Value->Value->Sem Value)(c: ∀k x y,op (.int k x) (.int k y)=pure (.int k (if d then (if y>x then y else x) else (if y<x then y else x)))):
  ∀{vs:List V} {xs:List Value} {v u:V} {x:Value},VR m v x->gJ m vs xs->OH d v vs=some u->(xs= []->vs= [])-> ∃y,(xs.foldlM op x).run P w= .ok y w/\VR m u y
 | [], [],v,u,x,hv,_,he,_=>by simp only[OH] at he;cases he;exact⟨x,rfl,hv⟩
 |b::vs,y::xs,v,u,x,hv,hvs,he,_=>by
  cases v with
  |int k n=>
   cases b with
   |int k' n'=>
    simp only[OH] at he;split at he
    ·rename_i f
     subst f;obtain rfl:x= .int k n:=hv;obtain rfl:y= .int k n':=hvs.1
     obtain⟨z,g,i⟩:=Nx op c (v:= .int k (if d then (if n'>n then n' else n) else (if n'<n then n' else n))) rfl hvs.2 he (λe=>by
      subst e
      cases vs with
      |nil=>rfl
      |cons _ _=>exact hvs.2.elim)
     exact⟨z,by simp only[List.foldlM_cons,c];exact g,i⟩
    ·cases he
   |_=>simp [OH] at he
  |_=>simp [OH] at he
 | [],_::_,_,_,_,_,h,_,_=>h.elim
 |_::_, [],_,_,_,_,h,_,_=>h.elim
theorem EH (s:St m nt pv defs vars loc a)(N:HR P m h w)(O:fW m h.next){c:Call}(d4:o.op= .call c){i:I}(d:sX P pv defs c o.type=some (.op i))(j:cK (xv vars loc) h i=some (v,h')):Goal P m h w o a v h':=by
 obtain⟨U,q,g⟩:=c
 have ex: ∀b,U= .builtin b-> ∀sv:Sem Value,builtin b g o.type (q.map fun| .const _=>true|_=>false) (q.map a.eval)=(do pure (.value (←sv)))->
   execOp a.eval o=(do pure (.value (←sv))):=by
  intro b W sv d2
  unfold execOp
  rw[d4]
  subst W
  simp only[resolve,Go.invoke]
  exact d2
 unfold sX at d
 cases U with
 |value f=>
  exfalso
  cases f with
  |func f=>simp only at d;split at d<;>simp at d
  |_=>simp [qL] at d
 |invoke r mm=>
  simp only at d;split at d
  ·simp [qL] at d
  ·cases d
 |builtin b=>
  cases b<;>simp only at d<;>try (cases d;done)
  case clear=>
   split at d
   ·rename_i x t ha ht
    have J:q= #[x]:=by apply Array.toList_inj.1;simpa using ha
    have L:g= #[t]:=by apply Array.toList_inj.1;simpa using ht
    subst J;subst L;simp only[vD,qL] at d;obtain⟨e,a1,sz,K,d⟩:=d;split at d
    ·cases d
    ·rename_i a4
     have b6:BX P e sz=true:=by cases hq:BX P e sz with
      |true=>rfl
      |false=>exact absurd (.inr hq) a4
     have c3:sz≠0:=λe=>a4 (.inl e)
     simp only[qL] at d;obtain⟨zu,hz,cx,l,d⟩:=d;cases d;obtain⟨i2,z,G,a0,a6⟩:=Ex b6;have Z:i2.size=sz:=by unfold iG at K;rw[G] at K;simpa using K
     obtain⟨b7,b5,_⟩:=jR m hz G a0;have A:=aJ s l;have b0:=rF a1
     have b1: ∀{w':World} {m':M},(Builtin.clear_ #[t] o.type #[a.eval x]).run P w= .ok (.tuple #[]) w'->v=V.undef->iC P m h w m' h' w'->Goal P m h w o a v h':=by
      intro w' m' h1 h2 h3;subst h2;exact aT.goal (s:=Builtin.clear_ #[t] o.type #[a.eval x]) ⟨.tuple #[],w',m',h1,VR.undef m',h3⟩ (ex _ rfl _ (by simp [Go.builtin]))
     simp only[cK] at j;split at j
     ·rename_i Y
      rw[Y] at A;cases j;have F:a.eval x= .slice none 0 0:=A;exact b1 (by simp [Builtin.clear_,F,run_underlying b0]) rfl (iC.refl N O)
     ·rename_i ad Y
      rw[Y] at A;cases j;have F:a.eval x= .slice (some ad) 0 0:=A;exact b1 (by simp [Builtin.clear_,F,run_underlying b0]) rfl (iC.refl N O)
     ·rename_i id d0 len cap Y
      rw[Y] at A;obtain⟨p,c,o',hp,F,d6,ho,_⟩:=A;split at j
      ·rename_i h0
       cases j;subst h0;exact b1 (by simp [Builtin.clear_,F,run_underlying b0]) rfl (iC.refl N O)
      ·rename_i h0
       obtain rfl:=ho om;split at j
       ·rename_i d3
        simp only[lT] at j;obtain⟨h2,c2,j⟩:=j;cases j;have b2:0<zu.cells.length:=by rw[d3.1];omega
        have hv:=uX b7 b2 (len*sz);obtain⟨w',iB,c0⟩:=Cc N O c2 hv (Dr b5 b2 _) hp;have b8:z.cells.size=sz:=by simpa using a6
        have d1:(zeroValue e).run P w= .ok z w:=by simp [zeroValue,typeInfo,G,a0]
        refine b1 ?_ rfl c0
        obtain⟨n,rfl⟩: ∃n,len=n+1:=⟨len- 1,om⟩
        have c1:(Builtin.zeroCells z.cells (n+1)).toList=((Array.range ((n+1)*sz)).map (z.cells[· %z.cells.size]!)).toList:=by
         unfold Builtin.zeroCells;rw[b8]
        simp [Builtin.clear_,F,run_underlying b0,d1];rw[c1,iB]
        rfl
       ·cases j
     ·cases j
   ·cases d
  case append=>
   split at d
   ·rename_i x y t u ha ht
    have J:q= #[x,y]:=by apply Array.toList_inj.1;simpa using ha
    have L:g= #[t,u]:=by apply Array.toList_inj.1;simpa using ht
    subst J;subst L;simp only[vD,qL] at d;obtain⟨e,a1,sz,K,d⟩:=d;split at d
    ·cases d
    ·rename_i a4
     have c3:sz≠0:=λe=>a4 (.inl e)
     have b6:BX P e sz=true:=by cases hq:BX P e sz with
      |true=>rfl
      |false=>exact absurd (.inr hq) a4
     obtain⟨i2,z,G,a0,a6⟩:=Ex b6;have Z:i2.size=sz:=by unfold iG at K;rw[G] at K;simpa using K
     refine aT.goal (s:=Builtin.append_ #[t,u] o.type #[a.eval x,a.eval y]) ?_ (ex _ rfl _ (by simp [Go.builtin]));split at d
     ·rename_i hu
      simp only[qL] at d;obtain⟨R,W,cx,l,cy,a2,d⟩:=d;cases d;have a9:i2.bytes=R:=by unfold Ba at W;rw[G] at W;simpa using W
      simp only[cK] at j;split at j
      ·rename_i k ys hk c7
       have a3:=aJ s a2;obtain⟨ns,c5,b9,h1,hl⟩:=Lb N a3 hk c7;obtain⟨ab,ac,c6⟩:=tA a3 hk;exact Ry N O (rF a1) G a0 Z a9 a6 (aJ s l) b9 h1 ⟨by rw[Z];exact hl,.inl ⟨_,hu,by rw[c6];rfl,by rw[Z];exact c5⟩⟩ j o.type
      ·cases j
     ·rename_i hu
      simp only[qL] at d;obtain⟨R,W,zu,c4,cx,l,cy,a2,d⟩:=d;cases d;have a9:i2.bytes=R:=by unfold Ba at W;rw[G] at W;simpa using W
      simp only[cK] at j;have a3:=aJ s a2;split at j
      ·rename_i n c8
       rw[c8] at a3;split at j
       ·rename_i b3
        obtain⟨n0,nb,d5,nz⟩:=b3;obtain⟨b7,b5,_⟩:=jR m c4 G a0;have hv:=uX b7 om (n.toNat*sz)
        have c9:a.eval y= .int .i64 ((n.toNat:Nat):Int):=by
         rw[show a.eval y= .int .i64 n from a3];congr 1;omega
        rw[c9];refine Ry N O (rF a1) G a0 Z a9 a6 (aJ s l) hv (Dr b5 om _) ⟨by simp [Z],.inr ⟨_,hu,rfl,?_,om,λ_=>?_⟩⟩ j o.type
        ·rw[a9]
         have:((n.toNat:Nat):Int)=n:=om
         rw[this];exact nb
        ·apply Array.toList_inj.1
         simp [Builtin.zeroCells,a6]
       ·cases j
      ·cases j
     ·cases d
   ·cases d
  case cap=>
   split at d
   ·rename_i x t ha ht
    have J:q= #[x]:=by apply Array.toList_inj.1;simpa using ha
    have L:g= #[t]:=by apply Array.toList_inj.1;simpa using ht
    subst J;subst L;split at d
    ·rename_i e hu
     simp only[lT,dO.op.injEq] at d;obtain⟨cx,l,rfl⟩:=d;have A:=aJ s l;simp only[cK] at j;refine aT.goal (s:=Builtin.cap_ #[t] o.type #[a.eval x]) ?_ (ex _ rfl _ (by simp [Go.builtin]));split at j
     ·rename_i Y
      rw[Y] at A;cases j;refine aT.still N O (x:= .int .i64 0) ?_ rfl;rw[show a.eval x= .slice none 0 0 from A];simp [Builtin.cap_,run_underlying hu,goInt]
     ·rename_i id d0 len c Y
      rw[Y] at A;split at j
      ·cases j
       obtain⟨p,c',o',hp,F,_,_,rfl,rfl⟩:=A;refine aT.still N O (x:= .int .i64 c') ?_ rfl;rw[F];simp [Builtin.cap_,run_underlying hu,goInt]
      ·cases j
     ·cases j
    ·cases d
   ·cases d
  case copy=>
   split at d
   ·rename_i x y t u ha ht
    have J:q= #[x,y]:=by apply Array.toList_inj.1;simpa using ha
    have L:g= #[t,u]:=by apply Array.toList_inj.1;simpa using ht
    subst J;subst L;simp only[vD,qL] at d;obtain⟨e,a1,sz,K,d⟩:=d;split at d
    ·cases d
    ·simp only[qL] at d
     obtain⟨cx,l,cy,a2,d⟩:=d;cases d;exact aT.goal (s:=Builtin.copy_ #[t,u] o.type #[a.eval x,a.eval y]) (OG N O (rF a1) K (aJ s l) (aJ s a2) j o.type) (ex _ rfl _ (by simp [Go.builtin]))
   ·cases d
  case len=>
   split at d
   ·rename_i x t ha ht
    have J:q= #[x]:=by apply Array.toList_inj.1;simpa using ha
    have L:g= #[t]:=by apply Array.toList_inj.1;simpa using ht
    subst J;subst L;split at d
    ·rename_i e hu
     simp only[lT,dO.op.injEq] at d;obtain⟨cx,l,rfl⟩:=d;simp only[cK,lT] at j;obtain⟨n,hn,j⟩:=j;cases j;obtain⟨b,c,F⟩:=tA (aJ s l) hn;refine aT.goal (s:=Builtin.len_ #[t] o.type #[a.eval x]) (aT.still N O (x:= .int .i64 n) ?_ rfl) (ex _ rfl _ (by simp [Go.builtin]));rw[F];simp [Builtin.len_,run_underlying hu,goInt]
    ·rename_i k e hu
     simp only[lT,dO.op.injEq] at d;obtain⟨cx,l,rfl⟩:=d;have A:=aJ s l;simp only[cK] at j;refine aT.goal (s:=Builtin.len_ #[t] o.type #[a.eval x]) ?_ (ex _ rfl _ (by simp [Go.builtin]));split at j
     ·rename_i Y
      rw[Y] at A;cases j;refine aT.still N O (x:= .int .i64 0) ?_ rfl;rw[show a.eval x= .map none from A];simp [Builtin.len_,run_underlying hu,goInt]
     ·rename_i id Y
      rw[Y] at A;split at j
      ·rename_i es hg
       cases j;obtain⟨p,hp,F⟩:=A;obtain⟨p',a8,a7,Q,W,hl,_⟩:=N.live id _ hg;rw[hp] at a8;cases a8;refine aT.still N O (x:= .int .i64 a7.size) ?_ (by rw[hl];rfl);rw[F];have a5:(getObj p.1).run P w= .ok (.map a7 Q) w:=by simp [getObj,Sem.run,W]
       simp [Builtin.len_,run_underlying hu,goInt,a5]
      ·rename_i sh es hg
       cases j;obtain⟨p,hp,F⟩:=A;obtain⟨p',a8,_,a7,Q,W,hl,_⟩:=N.live id _ hg;rw[hp] at a8;cases a8;refine aT.still N O (x:= .int .i64 a7.size) ?_ (by rw[hl];rfl);rw[F];have a5:(getObj p.1).run P w= .ok (.map a7 Q) w:=by simp [getObj,Sem.run,W]
       simp [Builtin.len_,run_underlying hu,goInt,a5]
      ·cases j
     ·cases j
    ·cases d
   ·cases d
  case max=>
   simp only[lT,dO.op.injEq] at d;obtain⟨cx,l,rfl⟩:=d;have B:=gY s l;simp only[cK] at j;refine aT.goal (s:=Builtin.max_ g o.type (q.map a.eval)) ?_ (ex _ rfl _ (by simp [Go.builtin]))
   cases hm:cx.map (xv vars loc) with
   |nil=>simp [hm] at j
   |cons u us=>
    rw[hm] at B;simp only[hm,lT] at j;obtain⟨r,b4,j⟩:=j;cases j
    cases hl:q.toList.map a.eval with
    |nil=>rw[hl] at B;exact B.elim
    |cons x xs=>
     rw[hl] at B;obtain⟨y,h1,h2⟩:=Nx (P:=P) (w:=w) Builtin.max2 (λk x y=>by simp [Builtin.max2]) B.1 B.2 b4 (λe=>by subst e;cases us<;>first|rfl|exact B.2.elim);refine aT.still N O (x:=y) ?_ h2;unfold Builtin.max_;rw[Array.toList_map,hl];exact h1
  case min=>
   simp only[lT,dO.op.injEq] at d;obtain⟨cx,l,rfl⟩:=d;have B:=gY s l;simp only[cK] at j;refine aT.goal (s:=Builtin.min_ g o.type (q.map a.eval)) ?_ (ex _ rfl _ (by simp [Go.builtin]))
   cases hm:cx.map (xv vars loc) with
   |nil=>simp [hm] at j
   |cons u us=>
    rw[hm] at B;simp only[hm,lT] at j;obtain⟨r,b4,j⟩:=j;cases j
    cases hl:q.toList.map a.eval with
    |nil=>rw[hl] at B;exact B.elim
    |cons x xs=>
     rw[hl] at B;obtain⟨y,h1,h2⟩:=Nx (P:=P) (w:=w) Builtin.min2 (λk x y=>by simp [Builtin.min2]) B.1 B.2 b4 (λe=>by subst e;cases us<;>first|rfl|exact B.2.elim);refine aT.still N O (x:=y) ?_ h2;unfold Builtin.min_;rw[Array.toList_map,hl];exact h1
end
end Go.Ay
