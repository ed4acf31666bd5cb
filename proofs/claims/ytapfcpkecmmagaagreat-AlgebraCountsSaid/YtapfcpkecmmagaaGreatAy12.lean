/- What an operation hangs on. -/
import Derived.Test.YtapfcpkecmmagaaGreatAy11
namespace Go.Ay
open Go
section
variable {ρ:X->V} {h h':H} {i:I} {v:V}
theorem wE {ρ':X->V}(a: ∀x∈i.xs,ρ x=ρ' x):cW ρ h i=cW ρ' h i:=by
 have d: ∀(l:List X),(∀x∈l,ρ x=ρ' x)->l.map ρ=l.map ρ':=λl g=>zD g
 cases i with
 |mm mx xs=>simp only[cW];rw[d xs a]
 |mkf f fs cs=>simp only[cW];rw[d fs (λx h=>a x (by simp [I.xs,h])),d cs (λx h=>a x (by simp [I.xs,h]))]
 |bld z ps=>
  simp only[cW];rw[show (ps.map λp=>(p.1,p.2.1,ρ p.2.2))=ps.map λp=>(p.1,p.2.1,ρ' p.2.2) from zD λp c=>by rw[a p.2.2 (by simp only[I.xs,pU];exact⟨p,c,rfl⟩)]]
 |bls s z n ps=>
  simp only[cW];rw[show (ps.map λp=>(p.1,p.2.1,ρ p.2.2))=ps.map λp=>(p.1,p.2.1,ρ' p.2.2) from zD λp c=>by rw[a p.2.2 (by simp only[I.xs,pU];exact⟨p,c,rfl⟩)]]
 |slc s x lo hi mx=>
  simp only[cW];rw[a x (by simp [I.xs])];have b:lo.map ρ=lo.map ρ':=by cases lo with|none=>rfl|some y=>simp [a y (by simp [I.xs])]
  have e:hi.map ρ=hi.map ρ':=by cases hi with|none=>rfl|some y=>simp [a y (by simp [I.xs])]
  have j:mx.map ρ=mx.map ρ':=by cases mx with|none=>rfl|some y=>simp [a y (by simp [I.xs])]
  rw[b,e,j]
 |sla n s x lo hi=>
  simp only[cW];rw[a x (by simp [I.xs])];have b:lo.map ρ=lo.map ρ':=by cases lo with|none=>rfl|some y=>simp [a y (by simp [I.xs])]
  have e:hi.map ρ=hi.map ρ':=by cases hi with|none=>rfl|some y=>simp [a y (by simp [I.xs])]
  rw[b,e]
 |mkw s r=>
  have b:r.map ρ=r.map ρ':=by cases r with|none=>rfl|some y=>simp [a y (by simp [I.xs])]
  simp only[cW,b]
 |_=>simp only[cW,I.xs,Dk,List.mem_nil_iff,or_false,forall_eq_or_imp,forall_eq,List.not_mem_nil] at a ⊢ <;>simp only[a]
set_option maxHeartbeats 1000000 in
theorem Jq (b:i.mN=false)(h2:i.jR=false)(h3:i.nG=false)(a:cW ρ h i=some (v,h')):
  h'=h/\ ∀h2,cW ρ h2 i=some (v,h2):=by
 cases i<;>simp [I.mN,I.jR,I.nG] at b h2 h3<;>simp only[cW,Option.map_map] at a ⊢ <;>
  (repeat' first
   |(cases a;done)
   |(cases a;exact⟨rfl,λ_=>by simp [*]⟩)
   |exact⟨rfl,λ_=>rfl⟩
   |(simp only[jB,Prod.mk.injEq] at a;obtain⟨_,c,rfl,rfl⟩:=a;exact⟨rfl,λ_=>by simp [*]⟩)
   |split at a)
theorem Vx (b:i.mN=true)(a:cW ρ h i=some (v,h')):h'=h:=by
 cases i<;>simp [I.mN] at b<;>simp only[cW] at a<;>
  (repeat' first
   |(cases a;done)
   |(cases a;rfl)
   |(simp only[jB,Prod.mk.injEq] at a;obtain⟨_,c,c,rfl⟩:=a;rfl)
   |split at a)
theorem Qs {vs ws:List V}(a:i.mN=true):cW (xv vs ws) h (i.close ρ)=cW ρ h i:=by
 cases i<;>simp [I.mN] at a<;>first|rfl|simp only[cW,I.close,xv]
set_option maxHeartbeats 1000000 in
theorem DZ (f:i.jR=true)(a:cW ρ h i=some (v,h')):
  ∃o:Ob,o.rw=true/\h'=h.new o/\ ∀h2:H,h2.next=h.next->cW ρ h2 i=some (v,h2.new o):=by
 cases i<;>simp [I.jR] at f<;>simp only[cW,uJ] at a ⊢
 case alc z=>cases a;exact⟨_,rfl,rfl,λh2 e=>by rw[e]⟩
 case mkm=>cases a;exact⟨_,rfl,rfl,λh2 e=>by rw[e]⟩
 case mkw s r=>
  split at a
  ·rename_i d
   cases a;exact⟨_,rfl,rfl,λh2 e=>by rw[aV d,e]⟩
  ·cases a
 case box x=>
  split at a
  ·rename_i d
   cases a;exact⟨.cells false (ρ x).cells,rfl,rfl,λh2 e=>by rw[aV d,e]⟩
  ·cases a
 case mks s b z l c=>
  split at a
  ·rename_i t p q m g j
   split at a
   ·rename_i d
    cases a;exact⟨_,rfl,rfl,λh2 e=>by rw[aV d,e]⟩
   ·cases a
  ·cases a
 case bls s z n ps=>
  split at a
  ·rename_i k g
   split at a
   ·rename_i d
    cases a;exact⟨_,rfl,rfl,λh2 e=>by rw[aV d,e]⟩
   ·cases a
  ·cases a
theorem Jd {j f:dP}{d:dR}{c a b:List V}(e: ∀x∈d.xs,xv c b x=xv a b x):
  jI j f c b h d=jI j f a b h d:=by
 cases d with
 |op i=>rw[nE,nE];exact wE e
 |call g args=>rw[mV,mV];rw[show args.map (xv c b)=args.map (xv a b) from zD (λx h=>e x h)]
 |callv x args=>
  rw[mB,mB];rw[e x (by simp [dR.xs]),zD (λy h=>e y (by simp [dR.xs,h]))]
 |calli g t x args=>
  rw[lU,lU];rw[e x (by simp [dR.xs]),zD (λy h=>e y (by simp [dR.xs,h]))]
 |callp g args=>rw[jG,jG];rw[show args.map (xv c b)=args.map (xv a b) from zD (λx h=>e x h)]
end
end Go.Ay
