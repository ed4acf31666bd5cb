/- One operation, whole. -/
import Derived.Test.YtcdbmkidaecdiaaGreatAy7
namespace Go.Ay
open Go
def Goal (P:Program)(m:M)(h:H)(w:World)(o:Oper)(a:Act)(v:V)(h':H):Prop:=
 ∃x w' m',Yields P o a w x w'/\VR m' v x/\iO P m h w m' h' w'
section
variable {P:Program} {m:M} {h:H} {w:World} {o:Oper} {a:Act} {v:V} {h':H}
theorem aT.goal {s:Sem Value}(c:aT P m h w s v h')(b:execOp a.eval o=(do pure (.value (←s)))):Goal P m h w o a v h':=by
 obtain⟨x,f,k,d,j,i⟩:=c;exact⟨x,f,k,.inl (by rw[b];simp [d]),j,i⟩
theorem Jq (c:HR P m h w)(d:gK m h.next){x:Value}(b:execOp a.eval o=pure (.value x))(f:VR m v x):Goal P m h w o a v h:=
 ⟨x,w,m,.inl (by rw[b];rfl),f,iO.refl c d⟩
theorem Xv {s:Sem Unit}{w':World}{b:M}(c:execOp a.eval o=(do s;pure .skip))(d:s.run P w= .ok () w')(f:iO P m h w b h' w'):Goal P m h w o a V.undef h':=
 ⟨undef,w',b,.inr ⟨by rw[c];simp [d],rfl⟩,VR.undef b,f⟩
theorem uE {t:TypeId}{k:IntKind}(h:isInt P t=some k):P.underlying t=some (.int k):=by
 unfold isInt at h;split at h
 ·cases h;assumption
 ·cases h
theorem qX {t e:TypeId}(h:Gi P t=some e):P.underlying t=some (.slice e):=by
 unfold Gi at h;split at h
 ·cases h;assumption
 ·cases h
theorem Se {t:TypeId}{i:Nat}{f:Field}(h:Ug P t i=some f): ∃fs,P.underlying t=some (.struct fs)/\fs[i]? =some f:=by
 unfold Ug at h;split at h
 ·exact⟨_,by assumption,h⟩
 ·cases h
variable {nt:Nat} {pv defs:List Nat} {vars loc:List V}
theorem mK (s:St m nt pv defs vars loc a){c:Option Operand}{xs:Option X}(b:yI pv defs c=some xs):DV m (xs.map (xv vars loc)) (c.map a.eval):=by
 cases c with
 |none=>simp only[yI] at b;cases b;trivial
 |some o=>
  simp only[yI,mJ] at b;obtain⟨x,d,rfl⟩:=b;exact aJ s d
theorem Yh (s:St m nt pv defs vars loc a){c:Array (Nat×Operand)}{f:Nat×Operand->X->Nat×X}{ps:List (Nat×X)}
  (u:cH (c.toList.map λp=>(fU pv defs p.2).map (f p))=some ps) (n: ∀p x,(f p x).2=x):
  ps.length=(c.map λ(i,x)=>(i,a.eval x)).size/\ ∀(j:Nat) (b:Nat×X) (q:Nat×Value),ps[j]? =some b->(c.map λ(i,x)=>(i,a.eval x)).toList[j]? =some q->
   ∃p,c.toList[j]? =some p/\q.1=p.1/\b=f p b.2/\VR m (xv vars loc b.2) q.2:=by
 obtain⟨t,A⟩:=jD u
 refine⟨by simpa using t,λj b q z l=>?_⟩
 simp only[Array.toList_map,Ol,mJ] at l
 obtain⟨p,r,rfl⟩:=l
 obtain⟨B,d,k⟩:=A j p r
 rw[z] at d;cases d
 simp only[mJ] at k
 obtain⟨x,y,rfl⟩:=k
 exact⟨p,r,rfl,by rw[n],by rw[n];exact aJ s y⟩
theorem Pu {d:Bool}(op:Value->Value->Sem Value)(c: ∀k x y,op (.int k x) (.int k y)=pure (.int k (if d then (if y>x then y else x) else (if y<x then y else x)))):
  ∀{vs:List V} {xs:List Value} {v u:V} {x:Value},VR m v x->gZ m vs xs->NJ d v vs=some u->(xs= []->vs= [])-> ∃y,(xs.foldlM op x).run P w= .ok y w/\VR m u y
 | [], [],v,u,x,hv,_,he,_=>by simp only[NJ] at he;cases he;exact⟨x,rfl,hv⟩
 |b::vs,y::xs,v,u,x,hv,hvs,he,_=>by
  cases v with
  |int k n=>
   cases b with
   |int k' n'=>
    simp only[NJ] at he;split at he
    ·rename_i j
     subst j;obtain rfl:x= .int k n:=hv;obtain rfl:y= .int k n':=hvs.1
     obtain⟨z,i,f⟩:=Pu op c (v:= .int k (if d then (if n'>n then n' else n) else (if n'<n then n' else n))) rfl hvs.2 he (λe=>by
      subst e
      cases vs with
      |nil=>rfl
      |cons _ _=>exact hvs.2.elim)
     exact⟨z,by simp only[List.foldlM_cons,c];exact i,f⟩
    ·cases he
   |_=>simp [NJ] at he
  |_=>simp [NJ] at he
 | [],_::_,_,_,_,_,h,_,_=>h.elim
 |_::_, [],_,_,_,_,h,_,_=>h.elim
theorem DE (s:St m nt pv defs vars loc a)(O:HR P m h w)(U:gK m h.next){c:Call}(c5:o.op= .call c){i:I}(d:tI P pv defs c o.type=some (.op i))(l:cI (xv vars loc) h i=some (v,h')):Goal P m h w o a v h':=by
 obtain⟨W,A,j⟩:=c
 have ex: ∀b,W= .builtin b-> ∀sv:Sem Value,builtin b j o.type (A.map fun| .const _=>true|_=>false) (A.map a.eval)=(do pure (.value (←sv)))->
   execOp a.eval o=(do pure (.value (←sv))):=by
  intro b hb sv c9
  unfold execOp
  rw[c5]
  subst hb
  simp only[resolve,Go.invoke]
  exact c9
 unfold tI at d
 cases W with
 |value f=>
  exfalso
  cases f with
  |func f=>simp only at d;split at d<;>simp at d
  |_=>simp [qM] at d
 |invoke r mm=>
  simp only at d;split at d
  ·simp [qM] at d
  ·cases d
 |builtin b=>
  cases b<;>simp only at d<;>try (cases d;done)
  case clear=>
   split at d
   ·rename_i x t ha ht
    have K:A= #[x]:=by apply Array.toList_inj.1;simpa using ha
    have L:j= #[t]:=by apply Array.toList_inj.1;simpa using ht
    subst K;subst L;simp only[uV,qM] at d;obtain⟨e,a0,sz,N,d⟩:=d;split at d
    ·cases d
    ·rename_i a2
     have b4:zsz P e sz=true:=by cases hq:zsz P e sz with
      |true=>rfl
      |false=>exact absurd (.inr hq) a2
     have d2:sz≠0:=λe=>a2 (.inl e)
     simp only[qM] at d;obtain⟨zu,hz,cx,q,d⟩:=d;cases d;obtain⟨i2,z,J,Z,a6⟩:=Gn b4;have a1:i2.size=sz:=by unfold iV at N;rw[J] at N;simpa using N
     obtain⟨b3,b6,_⟩:=kC m hz J Z;have B:=aJ s q;have b1:=qX a0
     have b0: ∀{w':World} {m':M},(Builtin.clear_ #[t] o.type #[a.eval x]).run P w= .ok (.tuple #[]) w'->v=V.undef->iO P m h w m' h' w'->Goal P m h w o a v h':=by
      intro w' m' h1 h2 h3;subst h2;exact aT.goal (s:=Builtin.clear_ #[t] o.type #[a.eval x]) ⟨.tuple #[],w',m',h1,VR.undef m',h3⟩ (ex _ rfl _ (by simp [Go.builtin]))
     simp only[cI] at l;split at l
     ·rename_i Y
      rw[Y] at B;cases l;have G:a.eval x= .slice none 0 0:=B;exact b0 (by simp [Builtin.clear_,G,run_underlying b1]) rfl (iO.refl O U)
     ·rename_i ad Y
      rw[Y] at B;cases l;have G:a.eval x= .slice (some ad) 0 0:=B;exact b0 (by simp [Builtin.clear_,G,run_underlying b1]) rfl (iO.refl O U)
     ·rename_i id d0 len cap Y
      rw[Y] at B;obtain⟨p,c,o',hp,G,d5,ho,_⟩:=B;split at l
      ·rename_i h0
       cases l;subst h0;exact b0 (by simp [Builtin.clear_,G,run_underlying b1]) rfl (iO.refl O U)
      ·rename_i h0
       obtain rfl:=ho om;split at l
       ·rename_i d1
        simp only[mJ] at l;obtain⟨h2,c1,l⟩:=l;cases l;have b2:0<zu.cells.length:=by rw[d1.1];omega
        have hv:=uZ b3 b2 (len*sz);obtain⟨w',iP,b8⟩:=Bx O U c1 hv (Ed b6 b2 _) hp;have b9:z.cells.size=sz:=by simpa using a6
        have c4:(zeroValue e).run P w= .ok z w:=by simp [zeroValue,typeInfo,J,Z]
        refine b0 ?_ rfl b8
        obtain⟨n,rfl⟩: ∃n,len=n+1:=⟨len- 1,om⟩
        have c2:(Builtin.zeroCells z.cells (n+1)).toList=((Array.range ((n+1)*sz)).map (z.cells[· %z.cells.size]!)).toList:=by
         unfold Builtin.zeroCells;rw[b9]
        simp [Builtin.clear_,G,run_underlying b1,c4];rw[c2,iP]
        rfl
       ·cases l
     ·cases l
   ·cases d
  case append=>
   split at d
   ·rename_i x y t u ha ht
    have K:A= #[x,y]:=by apply Array.toList_inj.1;simpa using ha
    have L:j= #[t,u]:=by apply Array.toList_inj.1;simpa using ht
    subst K;subst L;simp only[uV,qM] at d;obtain⟨e,a0,sz,N,d⟩:=d;split at d
    ·cases d
    ·rename_i a2
     have d2:sz≠0:=λe=>a2 (.inl e)
     have b4:zsz P e sz=true:=by cases hq:zsz P e sz with
      |true=>rfl
      |false=>exact absurd (.inr hq) a2
     obtain⟨i2,z,J,Z,a6⟩:=Gn b4;have a1:i2.size=sz:=by unfold iV at N;rw[J] at N;simpa using N
     refine aT.goal (s:=Builtin.append_ #[t,u] o.type #[a.eval x,a.eval y]) ?_ (ex _ rfl _ (by simp [Go.builtin]));split at d
     ·rename_i hu
      simp only[qM] at d;obtain⟨R,hb,cx,q,cy,a3,d⟩:=d;cases d;have a9:i2.bytes=R:=by unfold zW at hb;rw[J] at hb;simpa using hb
      simp only[cI] at l;split at l
      ·rename_i k ys hk c7
       have a7:=aJ s a3;obtain⟨ns,d3,c0,h1,hl⟩:=Km O a7 hk c7;obtain⟨ab,ac,d4⟩:=tW a7 hk;exact Sg O U (qX a0) J Z a1 a9 a6 (aJ s q) c0 h1 ⟨by rw[a1];exact hl,.inl ⟨_,hu,by rw[d4];rfl,by rw[a1];exact d3⟩⟩ l o.type
      ·cases l
     ·rename_i hu
      simp only[qM] at d;obtain⟨R,hb,zu,c3,cx,q,cy,a3,d⟩:=d;cases d;have a9:i2.bytes=R:=by unfold zW at hb;rw[J] at hb;simpa using hb
      simp only[cI] at l;have a7:=aJ s a3;split at l
      ·rename_i n c8
       rw[c8] at a7;split at l
       ·rename_i b5
        obtain⟨n0,nb,d6,nz⟩:=b5;obtain⟨b3,b6,_⟩:=kC m c3 J Z;have hv:=uZ b3 om (n.toNat*sz)
        have c6:a.eval y= .int .i64 ((n.toNat:Nat):Int):=by
         rw[show a.eval y= .int .i64 n from a7];congr 1;omega
        rw[c6];refine Sg O U (qX a0) J Z a1 a9 a6 (aJ s q) hv (Ed b6 om _) ⟨by simp [a1],.inr ⟨_,hu,rfl,?_,om,λ_=>?_⟩⟩ l o.type
        ·rw[a9]
         have:((n.toNat:Nat):Int)=n:=om
         rw[this];exact nb
        ·apply Array.toList_inj.1
         simp [Builtin.zeroCells,a6]
       ·cases l
      ·cases l
     ·cases d
   ·cases d
  case cap=>
   split at d
   ·rename_i x t ha ht
    have K:A= #[x]:=by apply Array.toList_inj.1;simpa using ha
    have L:j= #[t]:=by apply Array.toList_inj.1;simpa using ht
    subst K;subst L;split at d
    ·rename_i e hu
     simp only[mJ,dR.op.injEq] at d;obtain⟨cx,q,rfl⟩:=d;have B:=aJ s q;simp only[cI] at l;refine aT.goal (s:=Builtin.cap_ #[t] o.type #[a.eval x]) ?_ (ex _ rfl _ (by simp [Go.builtin]));split at l
     ·rename_i Y
      rw[Y] at B;cases l;refine aT.still O U (x:= .int .i64 0) ?_ rfl;rw[show a.eval x= .slice none 0 0 from B];simp [Builtin.cap_,run_underlying hu,goInt]
     ·rename_i id d0 len c Y
      rw[Y] at B;split at l
      ·cases l
       obtain⟨p,c',o',hp,G,_,_,rfl,rfl⟩:=B;refine aT.still O U (x:= .int .i64 c') ?_ rfl;rw[G];simp [Builtin.cap_,run_underlying hu,goInt]
      ·cases l
     ·cases l
    ·cases d
   ·cases d
  case copy=>
   split at d
   ·rename_i x y t u ha ht
    have K:A= #[x,y]:=by apply Array.toList_inj.1;simpa using ha
    have L:j= #[t,u]:=by apply Array.toList_inj.1;simpa using ht
    subst K;subst L;simp only[uV,qM] at d;obtain⟨e,a0,sz,N,d⟩:=d;split at d
    ·cases d
    ·simp only[qM] at d
     obtain⟨cx,q,cy,a3,d⟩:=d;cases d;exact aT.goal (s:=Builtin.copy_ #[t,u] o.type #[a.eval x,a.eval y]) (JP O U (qX a0) N (aJ s q) (aJ s a3) l o.type) (ex _ rfl _ (by simp [Go.builtin]))
   ·cases d
  case len=>
   split at d
   ·rename_i x t ha ht
    have K:A= #[x]:=by apply Array.toList_inj.1;simpa using ha
    have L:j= #[t]:=by apply Array.toList_inj.1;simpa using ht
    subst K;subst L;split at d
    ·rename_i e hu
     simp only[mJ,dR.op.injEq] at d;obtain⟨cx,q,rfl⟩:=d;simp only[cI,mJ] at l;obtain⟨n,hn,l⟩:=l;cases l;obtain⟨b,c,G⟩:=tW (aJ s q) hn;refine aT.goal (s:=Builtin.len_ #[t] o.type #[a.eval x]) (aT.still O U (x:= .int .i64 n) ?_ rfl) (ex _ rfl _ (by simp [Go.builtin]));rw[G];simp [Builtin.len_,run_underlying hu,goInt]
    ·rename_i k e hu
     simp only[mJ,dR.op.injEq] at d;obtain⟨cx,q,rfl⟩:=d;have B:=aJ s q;simp only[cI] at l;refine aT.goal (s:=Builtin.len_ #[t] o.type #[a.eval x]) ?_ (ex _ rfl _ (by simp [Go.builtin]));split at l
     ·rename_i Y
      rw[Y] at B;cases l;refine aT.still O U (x:= .int .i64 0) ?_ rfl;rw[show a.eval x= .map none from B];simp [Builtin.len_,run_underlying hu,goInt]
     ·rename_i id Y
      rw[Y] at B;split at l
      ·rename_i es hg
       cases l;obtain⟨p,hp,G⟩:=B;obtain⟨p',a4,a5,Q,hb,hl,_⟩:=O.live id _ hg;rw[hp] at a4;cases a4;refine aT.still O U (x:= .int .i64 a5.size) ?_ (by rw[hl];rfl);rw[G];have a8:(getObj p.1).run P w= .ok (.map a5 Q) w:=by simp [getObj,Sem.run,hb]
       simp [Builtin.len_,run_underlying hu,goInt,a8]
      ·rename_i sh es hg
       cases l;obtain⟨p,hp,G⟩:=B;obtain⟨p',a4,_,a5,Q,hb,hl,_⟩:=O.live id _ hg;rw[hp] at a4;cases a4;refine aT.still O U (x:= .int .i64 a5.size) ?_ (by rw[hl];rfl);rw[G];have a8:(getObj p.1).run P w= .ok (.map a5 Q) w:=by simp [getObj,Sem.run,hb]
       simp [Builtin.len_,run_underlying hu,goInt,a8]
      ·cases l
     ·cases l
    ·cases d
   ·cases d
  case max=>
   simp only[mJ,dR.op.injEq] at d;obtain⟨cx,q,rfl⟩:=d;have F:=iM s q;simp only[cI] at l;refine aT.goal (s:=Builtin.max_ j o.type (A.map a.eval)) ?_ (ex _ rfl _ (by simp [Go.builtin]))
   cases hm:cx.map (xv vars loc) with
   |nil=>simp [hm] at l
   |cons u us=>
    rw[hm] at F;simp only[hm,mJ] at l;obtain⟨r,b7,l⟩:=l;cases l
    cases hl:A.toList.map a.eval with
    |nil=>rw[hl] at F;exact F.elim
    |cons x xs=>
     rw[hl] at F;obtain⟨y,h1,h2⟩:=Pu (P:=P) (w:=w) Builtin.max2 (λk x y=>by simp [Builtin.max2]) F.1 F.2 b7 (λe=>by subst e;cases us<;>first|rfl|exact F.2.elim);refine aT.still O U (x:=y) ?_ h2;unfold Builtin.max_;rw[Array.toList_map,hl];exact h1
  case min=>
   simp only[mJ,dR.op.injEq] at d;obtain⟨cx,q,rfl⟩:=d;have F:=iM s q;simp only[cI] at l;refine aT.goal (s:=Builtin.min_ j o.type (A.map a.eval)) ?_ (ex _ rfl _ (by simp [Go.builtin]))
   cases hm:cx.map (xv vars loc) with
   |nil=>simp [hm] at l
   |cons u us=>
    rw[hm] at F;simp only[hm,mJ] at l;obtain⟨r,b7,l⟩:=l;cases l
    cases hl:A.toList.map a.eval with
    |nil=>rw[hl] at F;exact F.elim
    |cons x xs=>
     rw[hl] at F;obtain⟨y,h1,h2⟩:=Pu (P:=P) (w:=w) Builtin.min2 (λk x y=>by simp [Builtin.min2]) F.1 F.2 b7 (λe=>by subst e;cases us<;>first|rfl|exact F.2.elim);refine aT.still O U (x:=y) ?_ h2;unfold Builtin.min_;rw[Array.toList_map,hl];exact h1
end
end Go.Ay
