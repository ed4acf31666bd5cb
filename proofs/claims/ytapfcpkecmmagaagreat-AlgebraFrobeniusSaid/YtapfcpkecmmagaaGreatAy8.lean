/- One operation, whole. -/
import Derived.Test.YtapfcpkecmmagaaGreatAy7
namespace Go.Ay
open Go
def Goal (P:Program)(m:M)(h:H)(w:World)(o:Oper)(a:Act)(v:V)(h':H):Prop:=
 ∃x w' m',Yields P o a w x w'/\VR m' v x/\eS P m h w m' h' w'
section
variable {P:Program} {m:M} {h:H} {w:World} {o:Oper} {a:Act} {v:V} {h':H}
theorem aS.goal {s:Sem Value}(c:aS P m h w s v h')(he:execOp a.eval o=(do pure (.value (←s)))):Goal P m h w o a v h':=by
 obtain⟨x,w',m',h1,h2,h3⟩:=c;exact⟨x,w',m',.inl (by rw[he];simp [h1]),h2,h3⟩
theorem tM (hr:HR P m h w)(hf:eD m h.next){x:Value}(he:execOp a.eval o=pure (.value x))(hv:VR m v x):Goal P m h w o a v h:=
 ⟨x,w,m,.inl (by rw[he];rfl),hv,eS.refl hr hf⟩
theorem qA {s:Sem Unit}{w':World}{m':M}(he:execOp a.eval o=(do s;pure .skip))(hs:s.run P w= .ok () w')(ha:eS P m h w m' h' w'):Goal P m h w o a V.undef h':=
 ⟨undef,w',m',.inr ⟨by rw[he];simp [hs],rfl⟩,VR.undef m',ha⟩
theorem lG {t:TypeId}{k:IntKind}(h:isInt P t=some k):P.underlying t=some (.int k):=by
 unfold isInt at h;split at h
 ·cases h;assumption
 ·cases h
theorem kF {t e:TypeId}(h:rV P t=some e):P.underlying t=some (.slice e):=by
 unfold rV at h;split at h
 ·cases h;assumption
 ·cases h
theorem xZ {t:TypeId}{i:Nat}{f:Field}(h:zQ P t i=some f): ∃fs,P.underlying t=some (.struct fs)/\fs[i]? =some f:=by
 unfold zQ at h;split at h
 ·exact⟨_,by assumption,h⟩
 ·cases h
variable {nt:Nat} {pv defs:List Nat} {vars loc:List V}
theorem iE (s:St m nt pv defs vars loc a){os:Option Operand}{xs:Option X}(hc:nV pv defs os=some xs):El m (xs.map (xv vars loc)) (os.map a.eval):=by
 cases os with
 |none=>simp only[nV] at hc;cases hc;trivial
 |some o=>
  simp only[nV,gJ] at hc;obtain⟨x,hx,rfl⟩:=hc;exact aG s hx
theorem Cm (s:St m nt pv defs vars loc a){parts:Array (Nat×Operand)}{f:Nat×Operand->X->Nat×X}{ps:List (Nat×X)}
  (hc:bY (parts.toList.map λp=>(dW pv defs p.2).map (f p))=some ps) (hf: ∀p x,(f p x).2=x):
  ps.length=(parts.map λ(i,x)=>(i,a.eval x)).size/\ ∀(j:Nat) (b:Nat×X) (q:Nat×Value),ps[j]? =some b->(parts.map λ(i,x)=>(i,a.eval x)).toList[j]? =some q->
   ∃p,parts.toList[j]? =some p/\q.1=p.1/\b=f p b.2/\VR m (xv vars loc b.2) q.2:=by
 obtain⟨h1,h2⟩:=fE hc
 refine⟨by simpa using h1,λj b q hb hq=>?_⟩
 simp only[Array.toList_map,List.getElem?_map,gJ] at hq
 obtain⟨p,hp,rfl⟩:=hq
 obtain⟨b',hb',hf'⟩:=h2 j p hp
 rw[hb] at hb';cases hb'
 simp only[gJ] at hf'
 obtain⟨x,hx,rfl⟩:=hf'
 exact⟨p,hp,rfl,by rw[hf],by rw[hf];exact aG s hx⟩
theorem vW {mx:Bool}(op:Value->Value->Sem Value)(hop: ∀k x y,op (.int k x) (.int k y)=pure (.int k (if mx then (if y>x then y else x) else (if y<x then y else x)))):
  ∀{vs:List V} {xs:List Value} {v u:V} {x:Value},VR m v x->eG m vs xs->Li mx v vs=some u->(xs= []->vs= [])-> ∃y,(xs.foldlM op x).run P w= .ok y w/\VR m u y
 | [], [],v,u,x,hv,_,he,_=>by simp only[Li] at he;cases he;exact⟨x,rfl,hv⟩
 |b::vs,y::xs,v,u,x,hv,hvs,he,_=>by
  cases v with
  |int k n=>
   cases b with
   |int k' n'=>
    simp only[Li] at he;split at he
    ·rename_i hk
     subst hk;obtain rfl:x= .int k n:=hv;obtain rfl:y= .int k n':=hvs.1
     obtain⟨z,h1,h2⟩:=vW op hop (v:= .int k (if mx then (if n'>n then n' else n) else (if n'<n then n' else n))) rfl hvs.2 he (λe=>by
      subst e
      cases vs with
      |nil=>rfl
      |cons _ _=>exact hvs.2.elim)
     exact⟨z,by simp only[List.foldlM_cons,hop];exact h1,h2⟩
    ·cases he
   |_=>simp [Li] at he
  |_=>simp [Li] at he
 | [],_::_,_,_,_,_,h,_,_=>h.elim
 |_::_, [],_,_,_,_,h,_,_=>h.elim
theorem Dw (s:St m nt pv defs vars loc a)(hr:HR P m h w)(hf:eD m h.next){c:Call}(hop:o.op= .call c){i:I}(hc:lN P pv defs c o.type=some (.op i))(he:cI (xv vars loc) h i=some (v,h')):Goal P m h w o a v h':=by
 obtain⟨callee,args,argTypes⟩:=c
 have ex: ∀b,callee= .builtin b-> ∀sv:Sem Value,builtin b argTypes o.type (args.map fun| .const _=>true|_=>false) (args.map a.eval)=(do pure (.value (←sv)))->
   execOp a.eval o=(do pure (.value (←sv))):=by
  intro b hb sv hsv
  unfold execOp
  rw[hop]
  subst hb
  simp only[resolve,Go.invoke]
  exact hsv
 unfold lN at hc
 cases callee with
 |value f=>
  exfalso
  cases f with
  |func f=>simp only at hc;split at hc<;>simp at hc
  |_=>simp [jU] at hc
 |invoke r mm=>
  simp only at hc;split at hc
  ·simp [jU] at hc
  ·cases hc
 |builtin b=>
  cases b<;>simp only at hc<;>try (cases hc;done)
  case clear=>
   split at hc
   ·rename_i x t ha ht
    have ha':args= #[x]:=by apply Array.toList_inj.1;simpa using ha
    have ht':argTypes= #[t]:=by apply Array.toList_inj.1;simpa using ht
    subst ha';subst ht';simp only[Option.bind_eq_bind,jU] at hc;obtain⟨e,hel,sz,hsz,hc⟩:=hc;split at hc
    ·cases hc
    ·rename_i hnz
     have hzs:Dt P e sz=true:=by cases hq:Dt P e sz with
      |true=>rfl
      |false=>exact absurd (.inr hq) hnz
     have hz0:sz≠0:=λe=>hnz (.inl e)
     simp only[jU] at hc;obtain⟨zu,hz,cx,hcx,hc⟩:=hc;cases hc;obtain⟨i2,z,hi2,hz1,hz2⟩:=rM hzs;have his:i2.size=sz:=by unfold eU at hsz;rw[hi2] at hsz;simpa using hsz
     obtain⟨hzc,hzo,_⟩:=fV m hz hi2 hz1;have hvx:=aG s hcx;have hsl:=kF hel
     have fin: ∀{w':World} {m':M},(Builtin.clear_ #[t] o.type #[a.eval x]).run P w= .ok (.tuple #[]) w'->v=V.undef->eS P m h w m' h' w'->Goal P m h w o a v h':=by
      intro w' m' h1 h2 h3;subst h2;exact aS.goal (s:=Builtin.clear_ #[t] o.type #[a.eval x]) ⟨.tuple #[],w',m',h1,VR.undef m',h3⟩ (ex _ rfl _ (by simp [Go.builtin]))
     simp only[cI] at he;split at he
     ·rename_i hx
      rw[hx] at hvx;cases he;have hxe:a.eval x= .slice none 0 0:=hvx;exact fin (by simp [Builtin.clear_,hxe,run_underlying hsl]) rfl (eS.refl hr hf)
     ·rename_i ad hx
      rw[hx] at hvx;cases he;have hxe:a.eval x= .slice (some ad) 0 0:=hvx;exact fin (by simp [Builtin.clear_,hxe,run_underlying hsl]) rfl (eS.refl hr hf)
     ·rename_i id off len cap hx
      rw[hx] at hvx;obtain⟨p,c,o',hp,hxe,hlc,ho,_⟩:=hvx;split at he
      ·rename_i h0
       cases he;subst h0;exact fin (by simp [Builtin.clear_,hxe,run_underlying hsl]) rfl (eS.refl hr hf)
      ·rename_i h0
       obtain rfl:=ho (by omega);split at he
       ·rename_i hzz
        simp only[gJ] at he;obtain⟨h2,hput,he⟩:=he;cases he;have hpos:0<zu.cells.length:=by rw[hzz.1];omega
        have hv:=mG hzc hpos (len*sz);obtain⟨w',fG,hadv⟩:=qB hr hf hput hv (qV hzo hpos _) hp;have hzc2:z.cells.size=sz:=by simpa using hz2
        have hzr:(zeroValue e).run P w= .ok z w:=by simp [zeroValue,typeInfo,hi2,hz1]
        refine fin ?_ rfl hadv
        obtain⟨n,rfl⟩: ∃n,len=n+1:=⟨len- 1,by omega⟩
        have hzz2:(Builtin.zeroCells z.cells (n+1)).toList=((Array.range ((n+1)*sz)).map (z.cells[· %z.cells.size]!)).toList:=by
         unfold Builtin.zeroCells;rw[hzc2]
        simp [Builtin.clear_,hxe,run_underlying hsl,hzr];rw[hzz2,fG]
        rfl
       ·cases he
     ·cases he
   ·cases hc
  case append=>
   split at hc
   ·rename_i x y t u ha ht
    have ha':args= #[x,y]:=by apply Array.toList_inj.1;simpa using ha
    have ht':argTypes= #[t,u]:=by apply Array.toList_inj.1;simpa using ht
    subst ha';subst ht';simp only[Option.bind_eq_bind,jU] at hc;obtain⟨e,hel,sz,hsz,hc⟩:=hc;split at hc
    ·cases hc
    ·rename_i hnz
     have hz0:sz≠0:=λe=>hnz (.inl e)
     have hzs:Dt P e sz=true:=by cases hq:Dt P e sz with
      |true=>rfl
      |false=>exact absurd (.inr hq) hnz
     obtain⟨i2,z,hi2,hz1,hz2⟩:=rM hzs;have his:i2.size=sz:=by unfold eU at hsz;rw[hi2] at hsz;simpa using hsz
     refine aS.goal (s:=Builtin.append_ #[t,u] o.type #[a.eval x,a.eval y]) ?_ (ex _ rfl _ (by simp [Go.builtin]));split at hc
     ·rename_i hu
      simp only[jU] at hc;obtain⟨bytes,hb,cx,hcx,cy,hcy,hc⟩:=hc;cases hc;have hib:i2.bytes=bytes:=by unfold pN at hb;rw[hi2] at hb;simpa using hb
      simp only[cI] at he;split at he
      ·rename_i k ys hk hys
       have hvy:=aG s hcy;obtain⟨ns,hns,hvns,h1,hl⟩:=tU hr hvy hk hys;obtain⟨ab,ac,hye⟩:=lI hvy hk;exact xY hr hf (kF hel) hi2 hz1 his hib hz2 (aG s hcx) hvns h1 ⟨by rw[his];exact hl,.inl ⟨_,hu,by rw[hye];rfl,by rw[his];exact hns⟩⟩ he o.type
      ·cases he
     ·rename_i hu
      simp only[jU] at hc;obtain⟨bytes,hb,zu,hzu,cx,hcx,cy,hcy,hc⟩:=hc;cases hc;have hib:i2.bytes=bytes:=by unfold pN at hb;rw[hi2] at hb;simpa using hb
      simp only[cI] at he;have hvy:=aG s hcy;split at he
      ·rename_i n hyn
       rw[hyn] at hvy;split at he
       ·rename_i hcond
        obtain⟨n0,nb,n62,nz⟩:=hcond;obtain⟨hzc,hzo,_⟩:=fV m hzu hi2 hz1;have hv:=mG hzc (by omega) (n.toNat*sz)
        have hyv:a.eval y= .int .i64 ((n.toNat:Nat):Int):=by
         rw[show a.eval y= .int .i64 n from hvy];congr 1;omega
        rw[hyv];refine xY hr hf (kF hel) hi2 hz1 his hib hz2 (aG s hcx) hv (qV hzo (by omega) _) ⟨by simp [his],.inr ⟨_,hu,rfl,?_,by omega,λ_=>?_⟩⟩ he o.type
        ·rw[hib]
         have:((n.toNat:Nat):Int)=n:=by omega
         rw[this];exact nb
        ·apply Array.toList_inj.1
         simp [Builtin.zeroCells,hz2]
       ·cases he
      ·cases he
     ·cases hc
   ·cases hc
  case cap=>
   split at hc
   ·rename_i x t ha ht
    have ha':args= #[x]:=by apply Array.toList_inj.1;simpa using ha
    have ht':argTypes= #[t]:=by apply Array.toList_inj.1;simpa using ht
    subst ha';subst ht';split at hc
    ·rename_i e hu
     simp only[gJ,dE.op.injEq] at hc;obtain⟨cx,hcx,rfl⟩:=hc;have hvx:=aG s hcx;simp only[cI] at he;refine aS.goal (s:=Builtin.cap_ #[t] o.type #[a.eval x]) ?_ (ex _ rfl _ (by simp [Go.builtin]));split at he
     ·rename_i hx
      rw[hx] at hvx;cases he;refine aS.still hr hf (x:= .int .i64 0) ?_ rfl;rw[show a.eval x= .slice none 0 0 from hvx];simp [Builtin.cap_,run_underlying hu,goInt]
     ·rename_i id off len c hx
      rw[hx] at hvx;split at he
      ·cases he
       obtain⟨p,c',o',hp,hxe,_,_,rfl,rfl⟩:=hvx;refine aS.still hr hf (x:= .int .i64 c') ?_ rfl;rw[hxe];simp [Builtin.cap_,run_underlying hu,goInt]
      ·cases he
     ·cases he
    ·cases hc
   ·cases hc
  case copy=>
   split at hc
   ·rename_i x y t u ha ht
    have ha':args= #[x,y]:=by apply Array.toList_inj.1;simpa using ha
    have ht':argTypes= #[t,u]:=by apply Array.toList_inj.1;simpa using ht
    subst ha';subst ht';simp only[Option.bind_eq_bind,jU] at hc;obtain⟨e,hel,sz,hsz,hc⟩:=hc;split at hc
    ·cases hc
    ·simp only[jU] at hc
     obtain⟨cx,hcx,cy,hcy,hc⟩:=hc;cases hc;exact aS.goal (s:=Builtin.copy_ #[t,u] o.type #[a.eval x,a.eval y]) (Jt hr hf (kF hel) hsz (aG s hcx) (aG s hcy) he o.type) (ex _ rfl _ (by simp [Go.builtin]))
   ·cases hc
  case len=>
   split at hc
   ·rename_i x t ha ht
    have ha':args= #[x]:=by apply Array.toList_inj.1;simpa using ha
    have ht':argTypes= #[t]:=by apply Array.toList_inj.1;simpa using ht
    subst ha';subst ht';split at hc
    ·rename_i e hu
     simp only[gJ,dE.op.injEq] at hc;obtain⟨cx,hcx,rfl⟩:=hc;simp only[cI,gJ] at he;obtain⟨n,hn,he⟩:=he;cases he;obtain⟨b,c,hxe⟩:=lI (aG s hcx) hn;refine aS.goal (s:=Builtin.len_ #[t] o.type #[a.eval x]) (aS.still hr hf (x:= .int .i64 n) ?_ rfl) (ex _ rfl _ (by simp [Go.builtin]));rw[hxe];simp [Builtin.len_,run_underlying hu,goInt]
    ·rename_i k e hu
     simp only[gJ,dE.op.injEq] at hc;obtain⟨cx,hcx,rfl⟩:=hc;have hvx:=aG s hcx;simp only[cI] at he;refine aS.goal (s:=Builtin.len_ #[t] o.type #[a.eval x]) ?_ (ex _ rfl _ (by simp [Go.builtin]));split at he
     ·rename_i hx
      rw[hx] at hvx;cases he;refine aS.still hr hf (x:= .int .i64 0) ?_ rfl;rw[show a.eval x= .map none from hvx];simp [Builtin.len_,run_underlying hu,goInt]
     ·rename_i id hx
      rw[hx] at hvx;split at he
      ·rename_i es hg
       cases he;obtain⟨p,hp,hxe⟩:=hvx;obtain⟨p',hp',es',clock,hb,hl,_⟩:=hr.live id _ hg;rw[hp] at hp';cases hp';refine aS.still hr hf (x:= .int .i64 es'.size) ?_ (by rw[hl];rfl);rw[hxe];have hget:(getObj p.1).run P w= .ok (.map es' clock) w:=by simp [getObj,Sem.run,hb]
       simp [Builtin.len_,run_underlying hu,goInt,hget]
      ·cases he
     ·cases he
    ·cases hc
   ·cases hc
  case max=>
   simp only[gJ,dE.op.injEq] at hc;obtain⟨cx,hcx,rfl⟩:=hc;have hvs:=eM s hcx;simp only[cI] at he;refine aS.goal (s:=Builtin.max_ argTypes o.type (args.map a.eval)) ?_ (ex _ rfl _ (by simp [Go.builtin]))
   cases hm:cx.map (xv vars loc) with
   |nil=>simp [hm] at he
   |cons u us=>
    rw[hm] at hvs;simp only[hm,gJ] at he;obtain⟨r,hmm,he⟩:=he;cases he
    cases hl:args.toList.map a.eval with
    |nil=>rw[hl] at hvs;exact hvs.elim
    |cons x xs=>
     rw[hl] at hvs;obtain⟨y,h1,h2⟩:=vW (P:=P) (w:=w) Builtin.max2 (λk x y=>by simp [Builtin.max2]) hvs.1 hvs.2 hmm (λe=>by subst e;cases us<;>first|rfl|exact hvs.2.elim);refine aS.still hr hf (x:=y) ?_ h2;unfold Builtin.max_;rw[Array.toList_map,hl];exact h1
  case min=>
   simp only[gJ,dE.op.injEq] at hc;obtain⟨cx,hcx,rfl⟩:=hc;have hvs:=eM s hcx;simp only[cI] at he;refine aS.goal (s:=Builtin.min_ argTypes o.type (args.map a.eval)) ?_ (ex _ rfl _ (by simp [Go.builtin]))
   cases hm:cx.map (xv vars loc) with
   |nil=>simp [hm] at he
   |cons u us=>
    rw[hm] at hvs;simp only[hm,gJ] at he;obtain⟨r,hmm,he⟩:=he;cases he
    cases hl:args.toList.map a.eval with
    |nil=>rw[hl] at hvs;exact hvs.elim
    |cons x xs=>
     rw[hl] at hvs;obtain⟨y,h1,h2⟩:=vW (P:=P) (w:=w) Builtin.min2 (λk x y=>by simp [Builtin.min2]) hvs.1 hvs.2 hmm (λe=>by subst e;cases us<;>first|rfl|exact hvs.2.elim);refine aS.still hr hf (x:=y) ?_ h2;unfold Builtin.min_;rw[Array.toList_map,hl];exact h1
end
end Go.Ay
