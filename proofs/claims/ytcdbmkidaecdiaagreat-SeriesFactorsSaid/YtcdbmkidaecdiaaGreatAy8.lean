/- One operation, whole. -/
import Derived.Test.YtcdbmkidaecdiaaGreatAy7
namespace Go.Ay
open Go
def Goal (P:Program)(m:M)(h:H)(w:World)(o:Oper)(a:Act)(v:V)(h':H):Prop:=
 ∃x w' m',Yields P o a w x w'/\VR m' v x/\iO P m h w m' h' w'
section
variable {P:Program} {m:M} {h:H} {w:World} {o:Oper} {a:Act} {v:V} {h':H}
theorem aT.goal {s:Sem Value}(c:aT P m h w s v h')(i:execOp a.eval o=(do pure (.value (←s)))):Goal P m h w o a v h':=by
 obtain⟨x,b,f,k,d,j⟩:=c;exact⟨x,b,f,.inl (by rw[i];simp [k]),d,j⟩
theorem Jq (b:HR P m h w)(c:Al m h.next){x:Value}(d:execOp a.eval o=pure (.value x))(f:VR m v x):Goal P m h w o a v h:=
 ⟨x,w,m,.inl (by rw[d];rfl),f,iO.refl b c⟩
theorem Xv {s:Sem Unit}{w':World}{b:M}(f:execOp a.eval o=(do s;pure .skip))(d:s.run P w= .ok () w')(c:iO P m h w b h' w'):Goal P m h w o a V.undef h':=
 ⟨undef,w',b,.inr ⟨by rw[f];simp [d],rfl⟩,VR.undef b,c⟩
theorem uE {t:TypeId}{k:IntKind}(h:isInt P t=some k):P.underlying t=some (.int k):=by
 unfold isInt at h;split at h
 ·cases h;assumption
 ·cases h
theorem qX {t e:TypeId}(h:Gi P t=some e):P.underlying t=some (.slice e):=by
 unfold Gi at h;split at h
 ·cases h;assumption
 ·cases h
theorem Se {t:TypeId}{i:Nat}{f:Field}(h:Ug P t i=some f): ∃fs,P.underlying t=some (.struct fs)/\fs[i]? =some f:=by
 unfold Ug at h;split at h
 ·exact⟨_,by assumption,h⟩
 ·cases h
variable {nt:Nat} {pv defs:List Nat} {vars loc:List V}
theorem mK (s:St m nt pv defs vars loc a){c:Option Operand}{xs:Option X}(b:yI pv defs c=some xs):DV m (xs.map (xv vars loc)) (c.map a.eval):=by
 cases c with
 |none=>simp only[yI] at b;cases b;trivial
 |some o=>
  simp only[yI,mJ] at b;obtain⟨x,d,rfl⟩:=b;exact aJ s d
theorem Yh (s:St m nt pv defs vars loc a){c:Array (Nat×Operand)}{f:Nat×Operand->X->Nat×X}{ps:List (Nat×X)}
  (z:cH (c.toList.map λp=>(fU pv defs p.2).map (f p))=some ps) (r: ∀p x,(f p x).2=x):
  ps.length=(c.map λ(i,x)=>(i,a.eval x)).size/\ ∀(j:Nat) (b:Nat×X) (q:Nat×Value),ps[j]? =some b->(c.map λ(i,x)=>(i,a.eval x)).toList[j]? =some q->
   ∃p,c.toList[j]? =some p/\q.1=p.1/\b=f p b.2/\VR m (xv vars loc b.2) q.2:=by
 obtain⟨A,t⟩:=jD z
 refine⟨by simpa using A,λj b q y l=>?_⟩
 simp only[Array.toList_map,Ol,mJ] at l
 obtain⟨p,n,rfl⟩:=l
 obtain⟨B,d,k⟩:=t j p n
 rw[y] at d;cases d
 simp only[mJ] at k
 obtain⟨x,u,rfl⟩:=k
 exact⟨p,n,rfl,by rw[r],by rw[r];exact aJ s u⟩
theorem Pu {d:Bool}(op:Value->Value->Sem Value)(c: ∀k x y,op (.int k x) (.int k y)=pure (.int k (if d then (if y>x then y else x) else (if y<x then y else x)))):
  ∀{vs:List V} {xs:List Value} {v u:V} {x:Value},VR m v x->gZ m vs xs->NJ d v vs=some u->(xs= []->vs= [])-> ∃y,(xs.foldlM op x).run P w= .ok y w/\VR m u y
 | [], [],v,u,x,hv,_,he,_=>by simp only[NJ] at he;cases he;exact⟨x,rfl,hv⟩
 |b::vs,y::xs,v,u,x,hv,hvs,he,_=>by
  cases v with
  |int k n=>
   cases b with
   |int k' n'=>
    simp only[NJ] at he;split at he
    ·rename_i i
     subst i;obtain rfl:x= .int k n:=hv;obtain rfl:y= .int k n':=hvs.1
     obtain⟨z,j,f⟩:=Pu op c (v:= .int k (if d then (if n'>n then n' else n) else (if n'<n then n' else n))) rfl hvs.2 he (λe=>by
      subst e
      cases vs with
      |nil=>rfl
      |cons _ _=>exact hvs.2.elim)
     exact⟨z,by simp only[List.foldlM_cons,c];exact j,f⟩
    ·cases he
   |_=>simp [NJ] at he
  |_=>simp [NJ] at he
 | [],_::_,_,_,_,_,h,_,_=>h.elim
 |_::_, [],_,_,_,_,h,_,_=>h.elim
theorem DE (s:St m nt pv defs vars loc a)(O:HR P m h w)(U:Al m h.next){c:Call}(d4:o.op= .call c){i:I}(d:tI P pv defs c o.type=some (.op i))(l:cI (xv vars loc) h i=some (v,h')):Goal P m h w o a v h':=by
 obtain⟨W,B,j⟩:=c
 have ex: ∀b,W= .builtin b-> ∀sv:Sem Value,builtin b j o.type (B.map fun| .const _=>true|_=>false) (B.map a.eval)=(do pure (.value (←sv)))->
   execOp a.eval o=(do pure (.value (←sv))):=by
  intro b Z sv c9
  unfold execOp
  rw[d4]
  subst Z
  simp only[resolve,Go.invoke]
  exact c9
 unfold tI at d
 cases W with
 |value f=>
  exfalso
  cases f with
  |func f=>simp only at d;split at d<;>simp at d
  |_=>simp [qM] at d
 |invoke r mm=>
  simp only at d;split at d
  ·simp [qM] at d
  ·cases d
 |builtin b=>
  cases b<;>simp only at d<;>try (cases d;done)
  case clear=>
   split at d
   ·rename_i x t ha ht
    have K:B= #[x]:=by apply Array.toList_inj.1;simpa using ha
    have N:j= #[t]:=by apply Array.toList_inj.1;simpa using ht
    subst K;subst N;simp only[uV,qM] at d;obtain⟨e,a2,sz,L,d⟩:=d;split at d
    ·cases d
    ·rename_i a8
     have b4:mC P e sz=true:=by cases hq:mC P e sz with
      |true=>rfl
      |false=>exact absurd (.inr hq) a8
     have c7:sz≠0:=λe=>a8 (.inl e)
     simp only[qM] at d;obtain⟨zu,hz,cx,q,d⟩:=d;cases d;obtain⟨i2,z,J,a1,a9⟩:=Gn b4;have a0:i2.size=sz:=by unfold iV at L;rw[J] at L;simpa using L
     obtain⟨b8,b7,_⟩:=kC m hz J a1;have A:=aJ s q;have b0:=qX a2
     have b2: ∀{w':World} {m':M},(Builtin.clear_ #[t] o.type #[a.eval x]).run P w= .ok (.tuple #[]) w'->v=V.undef->iO P m h w m' h' w'->Goal P m h w o a v h':=by
      intro w' m' h1 h2 h3;subst h2;exact aT.goal (s:=Builtin.clear_ #[t] o.type #[a.eval x]) ⟨.tuple #[],w',m',h1,VR.undef m',h3⟩ (ex _ rfl _ (by simp [Go.builtin]))
     simp only[cI] at l;split at l
     ·rename_i hx
      rw[hx] at A;cases l;have G:a.eval x= .slice none 0 0:=A;exact b2 (by simp [Builtin.clear_,G,run_underlying b0]) rfl (iO.refl O U)
     ·rename_i ad hx
      rw[hx] at A;cases l;have G:a.eval x= .slice (some ad) 0 0:=A;exact b2 (by simp [Builtin.clear_,G,run_underlying b0]) rfl (iO.refl O U)
     ·rename_i id d0 len cap hx
      rw[hx] at A;obtain⟨p,c,o',hp,G,d6,ho,_⟩:=A;split at l
      ·rename_i h0
       cases l;subst h0;exact b2 (by simp [Builtin.clear_,G,run_underlying b0]) rfl (iO.refl O U)
      ·rename_i h0
       obtain rfl:=ho om;split at l
       ·rename_i d5
        simp only[mJ] at l;obtain⟨h2,c2,l⟩:=l;cases l;have b3:0<zu.cells.length:=by rw[d5.1];omega
        have hv:=uZ b8 b3 (len*sz);obtain⟨w',iP,b9⟩:=Bx O U c2 hv (Ed b7 b3 _) hp;have c3:z.cells.size=sz:=by simpa using a9
        have c6:(zeroValue e).run P w= .ok z w:=by simp [zeroValue,typeInfo,J,a1]
        refine b2 ?_ rfl b9
        obtain⟨n,rfl⟩: ∃n,len=n+1:=⟨len- 1,om⟩
        have c1:(Builtin.zeroCells z.cells (n+1)).toList=((Array.range ((n+1)*sz)).map (z.cells[· %z.cells.size]!)).toList:=by
         unfold Builtin.zeroCells;rw[c3]
        simp [Builtin.clear_,G,run_underlying b0,c6];rw[c1,iP]
        rfl
       ·cases l
     ·cases l
   ·cases d
  case append=>
   split at d
   ·rename_i x y t u ha ht
    have K:B= #[x,y]:=by apply Array.toList_inj.1;simpa using ha
    have N:j= #[t,u]:=by apply Array.toList_inj.1;simpa using ht
    subst K;subst N;simp only[uV,qM] at d;obtain⟨e,a2,sz,L,d⟩:=d;split at d
    ·cases d
    ·rename_i a8
     have c7:sz≠0:=λe=>a8 (.inl e)
     have b4:mC P e sz=true:=by cases hq:mC P e sz with
      |true=>rfl
      |false=>exact absurd (.inr hq) a8
     obtain⟨i2,z,J,a1,a9⟩:=Gn b4;have a0:i2.size=sz:=by unfold iV at L;rw[J] at L;simpa using L
     refine aT.goal (s:=Builtin.append_ #[t,u] o.type #[a.eval x,a.eval y]) ?_ (ex _ rfl _ (by simp [Go.builtin]));split at d
     ·rename_i hu
      simp only[qM] at d;obtain⟨R,Z,cx,q,cy,a5,d⟩:=d;cases d;have b1:i2.bytes=R:=by unfold zW at Z;rw[J] at Z;simpa using Z
      simp only[cI] at l;split at l
      ·rename_i k ys hk c4
       have a3:=aJ s a5;obtain⟨ns,d1,c0,h1,Y⟩:=Km O a3 hk c4;obtain⟨ab,ac,d2⟩:=tW a3 hk;exact Sg O U (qX a2) J a1 a0 b1 a9 (aJ s q) c0 h1 ⟨by rw[a0];exact Y,.inl ⟨_,hu,by rw[d2];rfl,by rw[a0];exact d1⟩⟩ l o.type
      ·cases l
     ·rename_i hu
      simp only[qM] at d;obtain⟨R,Z,zu,d3,cx,q,cy,a5,d⟩:=d;cases d;have b1:i2.bytes=R:=by unfold zW at Z;rw[J] at Z;simpa using Z
      simp only[cI] at l;have a3:=aJ s a5;split at l
      ·rename_i n c5
       rw[c5] at a3;split at l
       ·rename_i b6
        obtain⟨n0,nb,d7,nz⟩:=b6;obtain⟨b8,b7,_⟩:=kC m d3 J a1;have hv:=uZ b8 om (n.toNat*sz)
        have c8:a.eval y= .int .i64 ((n.toNat:Nat):Int):=by
         rw[show a.eval y= .int .i64 n from a3];congr 1;omega
        rw[c8];refine Sg O U (qX a2) J a1 a0 b1 a9 (aJ s q) hv (Ed b7 om _) ⟨by simp [a0],.inr ⟨_,hu,rfl,?_,om,λ_=>?_⟩⟩ l o.type
        ·rw[b1]
         have:((n.toNat:Nat):Int)=n:=om
         rw[this];exact nb
        ·apply Array.toList_inj.1
         simp [Builtin.zeroCells,a9]
       ·cases l
      ·cases l
     ·cases d
   ·cases d
  case cap=>
   split at d
   ·rename_i x t ha ht
    have K:B= #[x]:=by apply Array.toList_inj.1;simpa using ha
    have N:j= #[t]:=by apply Array.toList_inj.1;simpa using ht
    subst K;subst N;split at d
    ·rename_i e hu
     simp only[mJ,dR.op.injEq] at d;obtain⟨cx,q,rfl⟩:=d;have A:=aJ s q;simp only[cI] at l;refine aT.goal (s:=Builtin.cap_ #[t] o.type #[a.eval x]) ?_ (ex _ rfl _ (by simp [Go.builtin]));split at l
     ·rename_i hx
      rw[hx] at A;cases l;refine aT.still O U (x:= .int .i64 0) ?_ rfl;rw[show a.eval x= .slice none 0 0 from A];simp [Builtin.cap_,run_underlying hu,goInt]
     ·rename_i id d0 len c hx
      rw[hx] at A;split at l
      ·cases l
       obtain⟨p,c',o',hp,G,_,_,rfl,rfl⟩:=A;refine aT.still O U (x:= .int .i64 c') ?_ rfl;rw[G];simp [Builtin.cap_,run_underlying hu,goInt]
      ·cases l
     ·cases l
    ·cases d
   ·cases d
  case copy=>
   split at d
   ·rename_i x y t u ha ht
    have K:B= #[x,y]:=by apply Array.toList_inj.1;simpa using ha
    have N:j= #[t,u]:=by apply Array.toList_inj.1;simpa using ht
    subst K;subst N;simp only[uV,qM] at d;obtain⟨e,a2,sz,L,d⟩:=d;split at d
    ·cases d
    ·simp only[qM] at d
     obtain⟨cx,q,cy,a5,d⟩:=d;cases d;exact aT.goal (s:=Builtin.copy_ #[t,u] o.type #[a.eval x,a.eval y]) (JP O U (qX a2) L (aJ s q) (aJ s a5) l o.type) (ex _ rfl _ (by simp [Go.builtin]))
   ·cases d
  case len=>
   split at d
   ·rename_i x t ha ht
    have K:B= #[x]:=by apply Array.toList_inj.1;simpa using ha
    have N:j= #[t]:=by apply Array.toList_inj.1;simpa using ht
    subst K;subst N;split at d
    ·rename_i e hu
     simp only[mJ,dR.op.injEq] at d;obtain⟨cx,q,rfl⟩:=d;simp only[cI,mJ] at l;obtain⟨n,hn,l⟩:=l;cases l;obtain⟨b,c,G⟩:=tW (aJ s q) hn;refine aT.goal (s:=Builtin.len_ #[t] o.type #[a.eval x]) (aT.still O U (x:= .int .i64 n) ?_ rfl) (ex _ rfl _ (by simp [Go.builtin]));rw[G];simp [Builtin.len_,run_underlying hu,goInt]
    ·rename_i k e hu
     simp only[mJ,dR.op.injEq] at d;obtain⟨cx,q,rfl⟩:=d;have A:=aJ s q;simp only[cI] at l;refine aT.goal (s:=Builtin.len_ #[t] o.type #[a.eval x]) ?_ (ex _ rfl _ (by simp [Go.builtin]));split at l
     ·rename_i hx
      rw[hx] at A;cases l;refine aT.still O U (x:= .int .i64 0) ?_ rfl;rw[show a.eval x= .map none from A];simp [Builtin.len_,run_underlying hu,goInt]
     ·rename_i id hx
      rw[hx] at A;split at l
      ·rename_i es hg
       cases l;obtain⟨p,hp,G⟩:=A;obtain⟨p',a6,a7,Q,Z,Y,_⟩:=O.live id _ hg;rw[hp] at a6;cases a6;refine aT.still O U (x:= .int .i64 a7.size) ?_ (by rw[Y];rfl);rw[G];have a4:(getObj p.1).run P w= .ok (.map a7 Q) w:=by simp [getObj,Sem.run,Z]
       simp [Builtin.len_,run_underlying hu,goInt,a4]
      ·rename_i sh es hg
       cases l;obtain⟨p,hp,G⟩:=A;obtain⟨p',a6,_,a7,Q,Z,Y,_⟩:=O.live id _ hg;rw[hp] at a6;cases a6;refine aT.still O U (x:= .int .i64 a7.size) ?_ (by rw[Y];rfl);rw[G];have a4:(getObj p.1).run P w= .ok (.map a7 Q) w:=by simp [getObj,Sem.run,Z]
       simp [Builtin.len_,run_underlying hu,goInt,a4]
      ·cases l
     ·cases l
    ·cases d
   ·cases d
  case max=>
   simp only[mJ,dR.op.injEq] at d;obtain⟨cx,q,rfl⟩:=d;have F:=iM s q;simp only[cI] at l;refine aT.goal (s:=Builtin.max_ j o.type (B.map a.eval)) ?_ (ex _ rfl _ (by simp [Go.builtin]))
   cases hm:cx.map (xv vars loc) with
   |nil=>simp [hm] at l
   |cons u us=>
    rw[hm] at F;simp only[hm,mJ] at l;obtain⟨r,b5,l⟩:=l;cases l
    cases Y:B.toList.map a.eval with
    |nil=>rw[Y] at F;exact F.elim
    |cons x xs=>
     rw[Y] at F;obtain⟨y,h1,h2⟩:=Pu (P:=P) (w:=w) Builtin.max2 (λk x y=>by simp [Builtin.max2]) F.1 F.2 b5 (λe=>by subst e;cases us<;>first|rfl|exact F.2.elim);refine aT.still O U (x:=y) ?_ h2;unfold Builtin.max_;rw[Array.toList_map,Y];exact h1
  case min=>
   simp only[mJ,dR.op.injEq] at d;obtain⟨cx,q,rfl⟩:=d;have F:=iM s q;simp only[cI] at l;refine aT.goal (s:=Builtin.min_ j o.type (B.map a.eval)) ?_ (ex _ rfl _ (by simp [Go.builtin]))
   cases hm:cx.map (xv vars loc) with
   |nil=>simp [hm] at l
   |cons u us=>
    rw[hm] at F;simp only[hm,mJ] at l;obtain⟨r,b5,l⟩:=l;cases l
    cases Y:B.toList.map a.eval with
    |nil=>rw[Y] at F;exact F.elim
    |cons x xs=>
     rw[Y] at F;obtain⟨y,h1,h2⟩:=Pu (P:=P) (w:=w) Builtin.min2 (λk x y=>by simp [Builtin.min2]) F.1 F.2 b5 (λe=>by subst e;cases us<;>first|rfl|exact F.2.elim);refine aT.still O U (x:=y) ?_ h2;unfold Builtin.min_;rw[Array.toList_map,Y];exact h1
end
end Go.Ay
