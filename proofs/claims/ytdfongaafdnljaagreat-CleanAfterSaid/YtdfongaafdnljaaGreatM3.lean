import Derived.Test.YtdfongaafdnljaaGreatM2
import Derived.OpenShut
import Derived.ShutString
import Derived.ChangeOld
import Derived.ProofKit
import Derived.WalkKit
set_option linter.all false
set_option autoImplicit true
set_option relaxedAutoImplicit true
namespace Go.Am
open List
open Go.Proofs.Tryz
variable {E:Nat→Sm}{k:Nat}{H:Hp}{Q:Post}{U X Y Z u w x x1 y z:Pl}{D L M N O l m n n1 o:Nat}{I g h i j:Int}{C b b1 b2 c d:Bool}{R S e r s t:ByteArray}{A a:Option Nat}{p q:List (Nat×Nat)}{F:Sm}
def ag_.cx S:=(⟨tys,[],[(13,[0,3,4,5,7,12,13])],[(10,[0,3,12]),(18,[0,3,4,5,7,12,13,14,15]),(20,[0,3,4,5,7,12,13,14,15])],[(154,gG_),(115,S)],au_,[]⟩:Cx)
def ag_.st S:=fF (ag_.cx S) f115
def ag_.l10 S k a b c d e f g h i j:=aW_ (ag_.cx S) f115 10 k (gP a::.bad::.bad::gI b::B 8 (.bx [.bool c,.bool d,.sl e f 1,.sl g h 1,.sl i j 1]::B 150 []))
def ag_.l13 S k a b c d e f g h i j l m n o p:=aW_ (ag_.cx S) f115 13 k (gP a::.bad::.bad::gI b::gS c::gS d::.bad::.bx [.sl e f 5]::B 4 (.bx [.bool g,.bool h,.sl i j 1,.sl l m 1,.sl n o 1]::gI p::B 149 []))
def ag_.l18 S k a b c d e f g h i j l m n o p q r:=aW_ (ag_.cx S) f115 18 k (gP a::.bad::.bad::gI b::gS c::gS d::.bad::.bx [.sl e f 5]::B 4 (.bx [.bool g,.bool h,.sl i j 1,.sl l m 1,.sl n o 1]::gI p::gS q::gS r::B 147 []))
def ag_.l20 S k a b c d e f g h i j l m n o p q r:=aW_ (ag_.cx S) f115 20 k (gP a::.bad::.bad::gI b::gS c::gS d::.bad::.bx [.sl e f 5]::B 4 (.bx [.bool g,.bool h,.sl i j 1,.sl l m 1,.sl n o 1]::gI p::gS q::gS r::B 147 []))
theorem jH_:aw_ (ag_.cx F) f115 (k+1) [x,.agg [.sl y n 5],i,j,s,t] H Q=pS x fun a b=>dh H a (b+3) (cz x H true Q []) (cL x H 1 0 i i (fun a b=>dh H a (b+tN i*1) (cz x H true Q []) (dN (leI 0 i&&ltI i (nI n)) y H (tN i*5) H H 1 H 1 H 1 (fun a b c d e f g h=>ak gG_ [.agg [a,b,.sl c d 1,.sl e f 1,.sl g h 1]] H fun a b=>aE b (cz x a true Q []) (cL x a 1 0 i i (fun b c=>wr a b (c+tN i*1) true fun a=>dN (leI 0 i&&ltI i (nI n)) y a (tN i*5) a a 1 a 1 a 1 fun b c d e f g h l=>cY i 0 (ay (nI e) 2 (cz x a true Q []) (bg 0 e (eJ (leI 0 0&&ltI 0 (nI e)) d a (tN 0*1) s (cz x a true Q []) (ew t [] (aL (leI 0 (ac_ .i64 (nI e-1))&&ltI (ac_ .i64 (nI e-1)) (nI e)) d a (tN (ac_ .i64 (nI e-1))*1) (fun i=>aE (dN_ i t) (cz x a true Q []) (b2_ c (eS x a 0 (bW x a j (fun a=>ag_.l10 F k x j b c d e f g h l a Q)) (ag_.l10 F k x j b c d e f g h l a Q)) (ag_.l13 F k x j s t y n b c d e f g h l 0 a Q)))) (b2_ c (eS x a 0 (bW x a j (fun a=>ag_.l10 F k x j b c d e f g h l a Q)) (ag_.l10 F k x j b c d e f g h l a Q)) (ag_.l13 F k x j s t y n b c d e f g h l 0 a Q)))) (b2_ c (eS x a 0 (bW x a j (fun a=>ag_.l10 F k x j b c d e f g h l a Q)) (ag_.l10 F k x j b c d e f g h l a Q)) (ag_.l13 F k x j s t y n b c d e f g h l 0 a Q)))) (bg 0 e (eJ (leI 0 0&&ltI 0 (nI e)) d a (tN 0*1) s (cz x a true Q []) (ew t [] (aL (leI 0 (ac_ .i64 (nI e-1))&&ltI (ac_ .i64 (nI e-1)) (nI e)) d a (tN (ac_ .i64 (nI e-1))*1) (fun i=>aE (dN_ i t) (cz x a true Q []) (b2_ c (eS x a 0 (bW x a j (fun a=>ag_.l10 F k x j b c d e f g h l a Q)) (ag_.l10 F k x j b c d e f g h l a Q)) (ag_.l13 F k x j s t y n b c d e f g h l 0 a Q)))) (b2_ c (eS x a 0 (bW x a j (fun a=>ag_.l10 F k x j b c d e f g h l a Q)) (ag_.l10 F k x j b c d e f g h l a Q)) (ag_.l13 F k x j s t y n b c d e f g h l 0 a Q)))) (b2_ c (eS x a 0 (bW x a j (fun a=>ag_.l10 F k x j b c d e f g h l a Q)) (ag_.l10 F k x j b c d e f g h l a Q)) (ag_.l13 F k x j s t y n b c d e f g h l 0 a Q))))))))):=zz
theorem ag_.l10_eq:ag_.l10 F (k+1) x i b c y n z m u l H Q=cE x H fun a=>pS x fun b c=>wr H b (c+3) (.bool (!(eqI a i))) fun a=>pS x fun b c=>au a b (c+2) fun b=>pS x fun c d=>bI a c (d+2) (ac_ .i64 (b+nI n)) Q []:=zz
theorem ag_.l13_eq:ag_.l13 F (k+1) x i s t y n b c z m u l w o j H Q=bg j o (ay 0 j (aL (leI 0 (ac_ .i64 (j-1))&&ltI (ac_ .i64 (j-1)) (nI m)) z H (tN (ac_ .i64 (j-1))*1) (fun a=>ag_.l18 F k x i s t y n b c z m u l w o j a t H Q)) (ag_.l18 F k x i s t y n b c z m u l w o j s t H Q)) (aC Q [] H):=zz
theorem ag_.l18_eq:ag_.l18 F (k+1) x i s t y n b c z m u l w o j r S H Q=bg j m (aL (leI 0 j&&ltI j (nI m)) z H (tN j*1) (fun a=>ag_.l20 F k x i s t y n b c z m u l w o j r a H Q)) (ag_.l20 F k x i s t y n b c z m u l w o j r S H Q):=zz
theorem ag_.l20_eq:ag_.l20 F (k+1) x i s t y n b c z m u l w o j r S H Q=aN (leI 0 j&&ltI j (nI o)) w H (tN j*1) fun a=>cl F [x,.agg [.sl y n 5],a,ac_ .i64 (i+1),r,S] H fun _ a=>ag_.l13 F k x i s t y n b c z m u l w o (ac_ .i64 (j+1)) a Q:=zz
theorem ag_.st_ok (S:Sm) (hS:cN_ prog 115 S):ao_ prog 115 (ag_.st S):=lX_.sound (cx:=ag_.cx S) rfl (eZ ua_ func154 (dw_.cons hS eN)) nO func115 rfl
def ag_.at:Nat→Sm
 | 0=>fun _ _ _=>False
 | n+1=>ag_.st (ag_.at n)
def ag_:Sm:=fun xs H Q=>∃ n,ag_.at n xs H Q
theorem ag_.at_ok:∀ n,ao_ prog 115 (ag_.at n)
 | 0=>fun _ _ _ h=>h.elim
 | n+1=>ag_.st_ok _ ((ag_.at_ok n).c ⟨_,func115,by kernel_rfl,by kernel_rfl⟩)
theorem p3_:ao_ prog 115 (ag_):=ao_.ex (ag_.at_ok)
def fF_.cx:Cx:=⟨tys,[],[],[],[],au_,[.tmp 2]⟩
def fF_:=fF fF_.cx f116
theorem uo_:aw_ fF_.cx f116 (k+1) [.agg [b,c,.sl x n 1,.sl y m 1,.sl z l 1]] H Q=aE b (aE c (di Q (ac_ .i64 (ac_ .i64 (nI n+nI m)+nI l)) 0 H) (aO Q H)) (aO Q H):=zz
theorem tO_:ao_ prog 116 (fF_):=sO eN nO func116
def co_.cx:Cx:=⟨tys,[10,12],[(6,[1,4,5,12])],[],[(115,ag_),(116,fF_)],au_,[.tmp 2,.tmp 3]⟩
def co_:=fF co_.cx f73
def co_.l6 k a b c d e f g:=aW_ (co_.cx) f73 6 k (.bad::.bx [.sl a b 5]::.bad::.bad::.g (.ptr (some (c,d)))::gI e::B 6 (.g (.ptr (some (f,g)))::B 40 []))
theorem vw_:aw_ co_.cx f73 (k+1) [.agg [.sl x n 5]] H Q=cn (nI n) 48 Q [.s (.ptr none),false] H (cl ag_ [.g (.ptr (some (ln (pu H (.row true 4 (ls_ (tN 48) [.bool false]))),0))),.agg [.sl x n 5],nN 0,nN 1,mkS [],mkS []] (pu (pu H (.row true 4 (ls_ (tN 48) [.bool false]))) (.row true 173 [.sl (some (ln H,0)) (tN 48) 1,nN 0,nN 0,false])) (fun _ a=>co_.l6 k x n (ln (pu H (.row true 4 (ls_ (tN 48) [.bool false])))) 0 0 (ln (pu H (.row true 4 (ls_ (tN 48) [.bool false])))) 0 a Q)):=zz
theorem co_.l6_eq:co_.l6 (k+1) x n m l i o N H Q=ay i 48 (db H m (l+0) 1 0 i i (fun a b=>aF H a (b+tN i*1) fun a=>aE a (dN (leI 0 i&&ltI i (nI n)) x H (tN i*5) H H 1 H 1 H 1 (fun a b c d e f g h=>ak fF_ [.agg [a,b,.sl c d 1,.sl e f 1,.sl g h 1]] H fun a b=>aE b (wr a m (l+3) true (fun a=>co_.l6 k x n m l (ac_ .i64 (i+1)) o N a Q)) (co_.l6 k x n m l (ac_ .i64 (i+1)) o N a Q))) (co_.l6 k x n m l (ac_ .i64 (i+1)) o N H Q))) (aF H m (l+3) (fun a=>aE a (au H m (l+2) (fun a=>aC Q [.s (.ptr (some (m,l))),.s (.bool (leI a 60))] H)) (aC Q [.s (.ptr (some (m,l))),false] H))):=zz
theorem uZ_:ao_ prog 73 (co_):=sO (eZ p3_ func115 (eZ tO_ func116 eN)) nO func73
def fM_.cx:Cx:=⟨tys,[],[],[],[(73,co_)],au_,[.tmp 2]⟩
def fM_:=fF fM_.cx f36
theorem w8_:aw_ fM_.cx f36 (k+1) [.agg [.sl x n 5]] H Q=co co_ [.agg [.sl x n 5]] H fun a b _=>bR b fun b=>Q b a:=zz
theorem oZ_:ao_ prog 36 (fM_):=sO (eZ uZ_ func73 eN) nO func36
def bs_.cx S:=(⟨tys,[],[(3,[2,3,7,8]),(7,[2,3,7,9]),(2000000,[2])],[],[(37,S)],au_,[.tmp 6]⟩:Cx)
def bs_.st S:=fF (bs_.cx S) f37
def bs_.l3 S k a b c d e f g h i j l m n:=aW_ (bs_.cx S) f37 3 k (.bad::.bad::nL a b 2::.bx [.sl c d 5]::B 3 (.bx [.bool e,.bool f,.sl g h 1,.sl i j 1,.sl l m 1]::gI n::B 43 []))
def bs_.l7 S k a b c d e f g h i j l m n:=aW_ (bs_.cx S) f37 7 k (.bad::.bad::nL a b 2::.bx [.sl c d 5]::B 3 (.bx [.bool e,.bool f,.sl g h 1,.sl i j 1,.sl l m 1]::.bad::gI n::B 42 []))
theorem AC_:aw_ (bs_.cx F) f37 (k+1) [.agg [.sl x n 5],i,nL y m 2] H Q=dN (leI 0 i&&ltI i (nI n)) x H (tN i*5) H H 1 H 1 H 1 fun a b c d e f g h=>bs_.l3 F k y m x n a b c d e f g h 0 H Q:=zz
theorem bs_.l3_eq:bs_.l3 F (k+1) x n y m b c z l u o w N i H Q=bg i o (aL (leI 0 i&&ltI i (nI l)) z H (tN i*1) (fun a=>aL (leI 0 i&&ltI i (nI o)) u H (tN i*1) fun d=>dO H 74 2 32 x n [a,d] fun a d e=>bs_.l3 F k a d y m b c z l u o w N (ac_ .i64 (i+1)) e Q)) (bs_.l7 F k x n y m b c z l u o w N 0 H Q):=zz
theorem bs_.l7_eq:bs_.l7 F (k+1) x n y m b c z l u o w N i H Q=bg i N (aN (leI 0 i&&ltI i (nI N)) w H (tN i*1) (fun a=>aG F [.agg [.sl y m 5],a,nL x n 2] H 2 fun a d e=>bs_.l7 F k d e y m b c z l u o w N (ac_ .i64 (i+1)) a Q)) (eK Q x n 2 H):=zz
theorem bs_.st_ok (S:Sm) (hS:cN_ prog 37 S):ao_ prog 37 (bs_.st S):=lX_.sound (cx:=bs_.cx S) rfl (dw_.cons hS eN) nO func37 rfl
def bs_.at:Nat→Sm
 | 0=>fun _ _ _=>False
 | n+1=>bs_.st (bs_.at n)
def bs_:Sm:=fun xs H Q=>∃ n,bs_.at n xs H Q
theorem bs_.at_ok:∀ n,ao_ prog 37 (bs_.at n)
 | 0=>fun _ _ _ h=>h.elim
 | n+1=>bs_.st_ok _ ((bs_.at_ok n).c ⟨_,func37,by kernel_rfl,by kernel_rfl⟩)
theorem ts_:ao_ prog 37 (bs_):=ao_.ex (bs_.at_ok)
def eg_.cx:Cx:=⟨tys,[],[],[],[(36,fM_),(37,bs_)],au_,[.tmp 2,.tmp 3]⟩
def eg_:=fF eg_.cx f16
theorem Av_:aw_ eg_.cx f16 (k+1) [.agg [.sl x n 5]] H Q=aR fM_ [.agg [.sl x n 5]] H Q [.s (.sl none 0 2),nN 1400] fun a=>aG bs_ [.agg [.sl x n 5],nN 0,nL none 0 2] a 2 fun a b c=>aC Q [.s (.sl b c 2),nN 0] a:=zz
theorem m2_:ao_ prog 16 (eg_):=sO (eZ oZ_ func36 (eZ ts_ func37 eN)) nO func16
def cj_.cx:Cx:=⟨tys,[],[(2,[0,1,5])],[],[],au_,[.tmp 4]⟩
def cj_:=fF cj_.cx f117
def cj_.l2 k a b c:=aW_ (cj_.cx) f117 2 k (gS a::gI b::B 3 (gI c::B 38 []))
theorem w7_:aw_ cj_.cx f117 (k+1) [s,i] H Q=cj_.l2 k s i 0 H Q:=zz
theorem cj_.l2_eq:cj_.l2 (k+1) s i j H Q=ay j (sz s) (chk (leI 0 j&&ltI j (sz s)) (bD 97 (byt s (tN j)) (chk (leI 0 j&&ltI j (sz s)) (bD (byt s (tN j)) 122 (cj_.l2 k s i (ac_ .i64 (j+1)) H Q) (chk (leI 0 j&&ltI j (sz s)) (dq 48 (byt s (tN j)) Q H (chk (leI 0 j&&ltI j (sz s)) (bz (leI (byt s (tN j)) 57) Q H (cj_.l2 k s i (ac_ .i64 (j+1)) H Q))))))) (chk (leI 0 j&&ltI j (sz s)) (dq 48 (byt s (tN j)) Q H (chk (leI 0 j&&ltI j (sz s)) (bz (leI (byt s (tN j)) 57) Q H (cj_.l2 k s i (ac_ .i64 (j+1)) H Q))))))) (dq 1 (sz s) Q H (dx Q (sz s) i H)):=zz
theorem o6_:ao_ prog 117 (cj_):=sO eN nO func117
def bg_.cx:Cx:=⟨tys,[],[],[],[(117,cj_)],au_,[.tmp 2]⟩
def bg_:=fF bg_.cx f75
theorem sF_:aw_ bg_.cx f75 (k+1) [s] H Q=bv cj_ [s,nN 4] H Q:=zz
theorem dc_:ao_ prog 75 (bg_):=sO (eZ o6_ func117 eN) nO func75
def fO_.cx:Cx:=⟨tys,[],[],[],[(75,bg_)],au_,[.tmp 2,.tmp 3]⟩
def fO_:=fF fO_.cx f80
theorem tM_:aw_ fO_.cx f80 (k+1) [s] H Q=d5 (sz s) 1 Q [mkS [],false] H (chk (leI 0 0&&ltI 0 (sz s)) (cn (byt s (tN 0)) 115 Q [mkS [],false] H (chk (leN (tN 1) (szN s)&&leN (szN s) (szN s)) (aR bg_ [sub s (tN 1) (szN s)] H Q [mkS [],false] (fun a=>chk (leN (tN 1) (szN s)&&leN (szN s) (szN s)) (aC Q [sub s (tN 1) (szN s),true] a)))))):=zz
theorem uq_:ao_ prog 80 (fO_):=sO (eZ dc_ func75 eN) nO func80
def de_.cx:Cx:=⟨tys,[],[],[],[],au_,[.tmp 2]⟩
def de_:=fF de_.cx f99
theorem vs_:aw_ de_.cx f99 (k+1) [i] H Q=dq 1 i Q H (dx Q i 255 H):=zz
theorem hm_:ao_ prog 99 (de_):=sO eN nO func99
def dQ_.cx:Cx:=⟨tys,[],[],[],[(99,de_),(75,bg_)],au_,[.tmp 2]⟩
def dQ_:=fF dQ_.cx f95
theorem rI_:aw_ dQ_.cx f95 (k+1) [.agg [i,j,s,t]] H Q=bY de_ [i] H Q fun a=>dq 0 j Q a (dq j 2 Q a (dz s (mkS []) (dx Q (sz t) 3 a) (bY bg_ [s] a Q (fun a=>dx Q (sz t) 3 a)))):=zz
theorem lA_:ao_ prog 95 (dQ_):=sO (eZ hm_ func99 (eZ dc_ func75 eN)) nO func95
def fc_.cx:Cx:=⟨tys,[],[],[],[(95,dQ_)],au_,[.cell 2 79,.tmp 3]⟩
def fc_:=fF fc_.cx f81
theorem rJ_:aw_ fc_.cx f81 (k+1) [s] H Q=d5 (sz s) 3 Q [.a [nN 0,nN 0,mkS [],mkS []],nN 1700] H (chk (leI 0 2&&ltI 2 (sz s)) (d5 (sz s) (ac_ .i64 (3+ac_ .i64 (byt s (tN 2)))) Q [.a [nN 0,nN 0,mkS [],mkS []],nN 1700] H (ah (leI 0 2&&ltI 2 (sz s)) (leI 0 0&&ltI 0 (sz s)) (ah (leI 0 1&&ltI 1 (sz s)) (leI 0 (ac_ .i64 (3+ac_ .i64 (byt s (tN 2))))) (ah (leN (tN 3) (tN (ac_ .i64 (3+ac_ .i64 (byt s (tN 2)))))&&leN (tN (ac_ .i64 (3+ac_ .i64 (byt s (tN 2))))) (szN s)) (leI 0 (ac_ .i64 (3+ac_ .i64 (byt s (tN 2))))) (chk (leN (tN (ac_ .i64 (3+ac_ .i64 (byt s (tN 2))))) (szN s)&&leN (szN s) (szN s)) (aR dQ_ [.agg [ac_ .i64 (byt s (tN 0)),ac_ .i64 (byt s (tN 1)),sub s (tN 3) (tN (ac_ .i64 (3+ac_ .i64 (byt s (tN 2))))),sub s (tN (ac_ .i64 (3+ac_ .i64 (byt s (tN 2))))) (szN s)]] H Q [.a [nN 0,nN 0,mkS [],mkS []],nN 1700] (fun a=>aC Q [.a [ac_ .i64 (byt s (tN 0)),ac_ .i64 (byt s (tN 1)),sub s (tN 3) (tN (ac_ .i64 (3+ac_ .i64 (byt s (tN 2))))),sub s (tN (ac_ .i64 (3+ac_ .i64 (byt s (tN 2))))) (szN s)],nN 0] a)))))))):=zz
theorem rE_:ao_ prog 81 (fc_):=sO (eZ lA_ func95 eN) nO func81
def cl_.cx:Cx:=⟨tys,[],[],[],[(117,cj_)],au_,[.tmp 2]⟩
def cl_:=fF cl_.cx f89
theorem s6_:aw_ cl_.cx f89 (k+1) [s] H Q=bv cj_ [s,nN 3] H Q:=zz
theorem gA_:ao_ prog 89 (cl_):=sO (eZ o6_ func117 eN) nO func89
def fL_.cx:Cx:=⟨tys,[],[],[],[(89,cl_)],au_,[.tmp 2,.tmp 3,.tmp 4]⟩
def fL_:=fF fL_.cx f82
theorem ub_:aw_ fL_.cx f82 (k+1) [s] H Q=d5 (sz s) 2 Q [nN 0,mkS [],false] H (chk (leI 0 0&&ltI 0 (sz s)) (cn (byt s (tN 0)) 102 Q [nN 0,mkS [],false] H (chk (leI 0 1&&ltI 1 (sz s)) (bV (byt s (tN 1)) 0 (aC Q [nN 0,mkS [],false] H) (chk (leN (tN 2) (szN s)&&leN (szN s) (szN s)) (aR cl_ [sub s (tN 2) (szN s)] H Q [nN 0,mkS [],false] (fun a=>ah (leI 0 1&&ltI 1 (sz s)) (leN (tN 2) (szN s)&&leN (szN s) (szN s)) (aC Q [ac_ .i64 (byt s (tN 1)),sub s (tN 2) (szN s),true] a)))))))):=zz
theorem uk_:ao_ prog 82 (fL_):=sO (eZ gA_ func89 eN) nO func82
def eM_.cx:Cx:=⟨tys,[],[],[],[],au_,[.tmp 2,.tmp 3]⟩
def eM_:=fF eM_.cx f83
theorem qm_:aw_ eM_.cx f83 (k+1) [s] H Q=cn (sz s) 2 Q [nN 0,false] H (chk (leI 0 0&&ltI 0 (sz s)) (cn (byt s (tN 0)) 105 Q [nN 0,false] H (chk (leI 0 1&&ltI 1 (sz s)) (bV (byt s (tN 1)) 0 (aC Q [nN 0,false] H) (chk (leI 0 1&&ltI 1 (sz s)) (aC Q [ac_ .i64 (byt s (tN 1)),true] H)))))):=zz
theorem rc_:ao_ prog 83 (eM_):=sO eN nO func83
def ds_.cx:Cx:=⟨tys,[],[],[],[(99,de_)],au_,[.tmp 2]⟩
def ds_:=fF ds_.cx f100
theorem rv_:aw_ ds_.cx f100 (k+1) [.agg [i,s]] H Q=bY de_ [i] H Q fun a=>dx Q (sz s) 6 a:=zz
theorem kt_:ao_ prog 100 (ds_):=sO (eZ hm_ func99 eN) nO func100
def eO_.cx:Cx:=⟨tys,[],[],[],[(100,ds_)],au_,[.cell 2 90,.tmp 3]⟩
def eO_:=fF eO_.cx f84
theorem qg_:aw_ eO_.cx f84 (k+1) [s] H Q=dz s (mkS []) (aC Q [.a [nN 0,mkS []],nN 1800] H) (ah (leI 0 0&&ltI 0 (sz s)) (leN (tN 1) (szN s)&&leN (szN s) (szN s)) (aR ds_ [.agg [ac_ .i64 (byt s (tN 0)),sub s (tN 1) (szN s)]] H Q [.a [nN 0,mkS []],nN 1800] (fun a=>aC Q [.a [ac_ .i64 (byt s (tN 0)),sub s (tN 1) (szN s)],nN 0] a))):=zz
theorem ri_:ao_ prog 84 (eO_):=sO (eZ kt_ func100 eN) nO func84
def dH_.cx:Cx:=⟨tys,[],[],[],[(80,fO_),(81,fc_),(82,fL_),(83,eM_),(84,eO_)],au_,[.tmp 4]⟩
def dH_:=fF dH_.cx f43
theorem oW_:aw_ dH_.cx f43 (k+1) [x,.agg [s,t]] H Q=cd fO_ [s] H fun a b c=>bR b fun b=>b2_ b (aV fc_ [t] a (fun a b d=>bh d fun d e=>bh d fun d f=>br d fun d g=>cV d fun d=>bf b fun b=>aY x a 5 fun h i=>dO a 81 5 64 h i [c,e,f,g,d] fun a c d=>pS x fun e f=>wr d e (f+0) (.sl a c 5) fun a=>di Q b 0 a)) (bZ fL_ [s] a (fun a b c=>ai b fun b d=>dS d fun d=>bR b fun b=>b2_ b (dt (sz t) 2 Q a (chk (leI 0 1&&ltI 1 (sz t)) (dE 1 (byt t (tN 1)) Q a (bq x a 4 (fun b e=>ah (leI 0 0&&ltI 0 (sz t)) (leI 0 1&&ltI 1 (sz t)) (eO a 88 4 40 b e [c,d,ac_ .i64 (byt t (tN 0)),.bool (eqI (byt t (tN 1)) 1)] x (fun a=>Q true a))))))) (cX eM_ [s] a (fun a b c=>aV eO_ [t] a fun a d e=>bh e fun e f=>cV e fun e=>bf d fun d=>bC x a 3 fun g h=>dO a 92 3 32 g h [b,f,e] fun a b e=>eu x e (.sl a b 3) fun a=>aW c Q a (di Q d 0 a))))):=zz
theorem oY_:ao_ prog 43 (dH_):=sO (eZ uq_ func80 (eZ rE_ func81 (eZ uk_ func82 (eZ rc_ func83 (eZ ri_ func84 eN))))) nO func43
def bd_.cx:Cx:=⟨tys,[],[(2,[0,1,5])],[],[],au_,[.tmp 4]⟩
def bd_:=fF bd_.cx f44
def bd_.l2 k a b c:=aW_ (bd_.cx) f44 2 k (gP a::gI b::B 3 (gI c::B 21 []))
theorem on_:aw_ bd_.cx f44 (k+1) [x,i] H Q=bd_.l2 k x i 0 H Q:=zz
theorem bd_.l2_eq:bd_.l2 (k+1) x i j H Q=aY x H 5 fun _ a=>bg j a (cL x H 5 0 j j (fun a b=>au H a (b+tN j*5+1+0) fun a=>bV a i (Q j H) (bd_.l2 k x i (ac_ .i64 (j+1)) H Q))) (dY Q .i64 (-1) H):=zz
theorem gI_:ao_ prog 44 (bd_):=sO eN nO func44
def aQ_.cx:Cx:=⟨tys,[],[(2,[0,1,5])],[],[],au_,[.tmp 4]⟩
def aQ_:=fF aQ_.cx f49
def aQ_.l2 k a b c:=aW_ (aQ_.cx) f49 2 k (gP a::gI b::B 3 (gI c::B 20 []))
theorem nI_:aw_ aQ_.cx f49 (k+1) [x,i] H Q=aQ_.l2 k x i 0 H Q:=zz
theorem aQ_.l2_eq:aQ_.l2 (k+1) x i j H Q=bC x H 3 fun _ a=>bg j a (eM x H 3 0 j j (fun a b=>au H a (b+tN j*3+0) fun a=>bV a i (Q j H) (aQ_.l2 k x i (ac_ .i64 (j+1)) H Q))) (dY Q .i64 (-1) H):=zz
theorem dZ_:ao_ prog 49 (aQ_):=sO eN nO func49
def av_.cx:Cx:=⟨tys,[],[(2,[0,3]),(7,[0,4]),(11,[0,4,5,6])],[],[(49,aQ_)],au_,[.tmp 2]⟩
def av_:=fF av_.cx f45
def av_.l2 k a b:=aW_ (av_.cx) f45 2 k (gP a::.bad::.bad::gI b::B 71 [])
def av_.l7 k a b:=aW_ (av_.cx) f45 7 k (gP a::B 3 (gI b::B 70 []))
def av_.l11 k a b c d:=aW_ (av_.cx) f45 11 k (gP a::B 3 (gI b::gI c::gI d::B 68 []))
theorem mx_:aw_ av_.cx f45 (k+1) [x] H Q=av_.l2 k x 0 H Q:=zz
theorem av_.l2_eq:av_.l2 (k+1) x i H Q=da x H 4 i (dj x H 4 0 i i (fun a b=>au H a (b+tN i*4+2) fun a=>aI aQ_ [x,a] H fun a b=>dE b 0 Q a (av_.l2 k x (ac_ .i64 (i+1)) a Q))) (av_.l7 k x 0 H Q):=zz
theorem av_.l7_eq:av_.l7 (k+1) x i H Q=bC x H 3 fun _ a=>bg i a (av_.l11 k x i 0 0 H Q) (Q true H):=zz
theorem av_.l11_eq:av_.l11 (k+1) x i j h H Q=da x H 4 h (dj x H 4 0 h h (fun a b=>au H a (b+tN h*4+2) fun a=>eM x H 3 0 i i fun b c=>au H b (c+tN i*3+0) fun b=>bV a b (av_.l11 k x i (ac_ .i64 (j+1)) (ac_ .i64 (h+1)) H Q) (av_.l11 k x i j (ac_ .i64 (h+1)) H Q))) (eM x H 3 0 i i (fun a b=>au H a (b+tN i*3+1+0) fun a=>dt j a Q H (av_.l7 k x (ac_ .i64 (i+1)) H Q))):=zz
theorem mJ_:ao_ prog 45 (av_):=sO (eZ dZ_ func49 eN) nO func45
def as_.cx:Cx:=⟨tys,[],[(3,[0,3,4]),(8,[0,3,4,5,6,7])],[],[(49,aQ_)],au_,[.tmp 2]⟩
def as_:=fF as_.cx f38
def as_.l3 k a b c d:=aW_ (as_.cx) f38 3 k (gP a::.bad::.bad::nL b c 5::gI d::B 87 [])
def as_.l8 k a b c d e f g h i j l m n o p q:=aW_ (as_.cx) f38 8 k (gP a::.bad::.bad::nL b c 5::gI d::.bx [.str e,.int .i64 f,.int .i64 g,.str h,.str i]::.bx [.str j,.int .i64 l,.str m,.str n,.sl o p 3]::gI q::B 84 [])
theorem nh_:aw_ as_.cx f38 (k+1) [x] H Q=as_.l3 k x none 0 0 H Q:=zz
theorem as_.l3_eq:as_.l3 (k+1) x y n i H Q=aY x H 5 fun _ a=>bg i a (cL x H 5 0 i i (fun a b=>aj H a (b+tN i*5) fun c=>au H a (b+tN i*5+1) fun d=>eD H a (b+tN i*5+1+1) H a (b+tN i*5+1+1+1) fun e f=>aj H a (b+tN i*5+1+1+1+1) fun a=>as_.l8 k x y n i c d e f a c e f a none 0 0 H Q)) (eK Q y n 5 H):=zz
theorem as_.l8_eq:as_.l8 (k+1) x y n i s j h t r S g R e z m I H Q=da x H 4 I (e8 x H 4 0 I I H (tN I*4) H (tN I*4) H (tN I*4) H (tN I*4) (fun a b c d=>aI aQ_ [x,c] H fun c f=>bV a j (bD 0 f (eM x c 3 0 f f (fun a l=>aj c a (l+tN f*3+1+1) fun a=>dO c 122 3 40 z m [b,a,d] fun a b c=>as_.l8 k x y n i s j h t r S g R e a b (ac_ .i64 (I+1)) c Q)) (as_.l8 k x y n i s j h t r S g R e z m (ac_ .i64 (I+1)) c Q)) (as_.l8 k x y n i s j h t r S g R e z m (ac_ .i64 (I+1)) c Q))) (dO H 45 5 80 y n [S,g,R,e,.sl z m 3] (fun a b c=>as_.l3 k x a b (ac_ .i64 (i+1)) c Q)):=zz
theorem da_:ao_ prog 38 (as_):=sO (eZ dZ_ func49 eN) nO func38
def b1_.cx:Cx:=⟨tys,[],[(2,[0,1,5])],[],[],au_,[.tmp 4]⟩
def b1_:=fF b1_.cx f74
def b1_.l2 k a b c d:=aW_ (b1_.cx) f74 2 k (nL a b 5::gS c::B 3 (gI d::B 14 []))
theorem AH_:aw_ b1_.cx f74 (k+1) [nL x n 5,s] H Q=b1_.l2 k x n s 0 H Q:=zz
theorem b1_.l2_eq:b1_.l2 (k+1) x n s i H Q=bg i n (bo (leI 0 i&&ltI i (nI n)) x H (tN i*5) (fun a=>dz a s (Q i H) (b1_.l2 k x n s (ac_ .i64 (i+1)) H Q))) (dY Q .i64 (-1) H):=zz
theorem iu_:ao_ prog 74 (b1_):=sO eN nO func74
def aX_.cx:Cx:=⟨tys,[],[(4,[0,3,5]),(11,[0,7,8])],[],[(75,bg_),(89,cl_),(74,b1_)],au_,[.tmp 4]⟩
def aX_:=fF aX_.cx f85
def aX_.l4 k a b c d e f g h i:=aW_ (aX_.cx) f85 4 k (nL a b 5::.bad::.bad::.bx [.str c,.int .i64 d,.str e,.str f,.sl g h 3]::.bad::gI i::B 105 [])
def aX_.l11 k a b c d:=aW_ (aX_.cx) f85 11 k (nL a b 5::B 6 (gS c::gI d::B 102 []))
theorem sz_:aw_ aX_.cx f85 (k+1) [nL x n 5,.agg [s,i,t,r,.sl y m 3]] H Q=bA bg_ [s] H Q fun a=>dE i 0 Q a (dE 2 i Q a (dE 3 (sz r) Q a (bg 4 m (aO Q a) (aX_.l4 k x n s i t r y m 0 a Q)))):=zz
theorem aX_.l4_eq:aX_.l4 (k+1) x n s i t r y m j H Q=bg j m (dp (leI 0 j&&ltI j (nI m)) y H (tN j*3) H H (fun a b c=>bA cl_ [a] H Q fun d=>dE 6 (sz b) Q d (b2_ c (bV i 1 (aO Q d) (ay 0 j (eI (leI 0 (ac_ .i64 (j-1))&&ltI (ac_ .i64 (j-1)) (nI m)) y d (tN (ac_ .i64 (j-1))*3) a a (aO Q d) (aX_.l4 k x n s i t r y m (ac_ .i64 (j+1)) d Q)) (aX_.l4 k x n s i t r y m (ac_ .i64 (j+1)) d Q))) (ay 0 j (eI (leI 0 (ac_ .i64 (j-1))&&ltI (ac_ .i64 (j-1)) (nI m)) y d (tN (ac_ .i64 (j-1))*3) a a (aO Q d) (aX_.l4 k x n s i t r y m (ac_ .i64 (j+1)) d Q)) (aX_.l4 k x n s i t r y m (ac_ .i64 (j+1)) d Q))))) (aX_.l11 k x n t 0 H Q):=zz
theorem aX_.l11_eq:aX_.l11 (k+1) x n s i H Q=ew s [] (aI b1_ [nL x n 5,s] H (fun a b=>dE b 0 Q a (cA (leI 0 b&&ltI b (nI n)) x a (tN b*5) (fun c=>dt c 2 Q a (dE 6 i Q a (aD (leI 0 b&&ltI b (nI n)) x (fun c d=>aj a c (d+tN b*5+2) fun b=>aX_.l11 k x n b (ac_ .i64 (i+1)) a Q))))))) (Q true H):=zz
theorem rO_:ao_ prog 85 (aX_):=sO (eZ dc_ func75 (eZ gA_ func89 (eZ iu_ func74 eN))) nO func85
def aU_.cx:Cx:=⟨tys,[],[(4,[0,3])],[],[(85,aX_)],au_,[.tmp 2]⟩
def aU_:=fF aU_.cx f46
def aU_.l4 k a b c:=aW_ (aU_.cx) f46 4 k (nL a b 5::.bad::.bad::gI c::B 34 [])
theorem pH_:aw_ aU_.cx f46 (k+1) [nL x n 5] H Q=bg 6 n (aO Q H) (aU_.l4 k x n 0 H Q):=zz
theorem aU_.l4_eq:aU_.l4 (k+1) x n i H Q=bg i n (cS (leI 0 i&&ltI i (nI n)) x H (tN i*5) H H H H 3 (fun a b c d e f=>bA aX_ [nL x n 5,.agg [a,b,c,d,.sl e f 3]] H Q fun a=>ay 0 i (bo (leI 0 i&&ltI i (nI n)) x a (tN i*5) (fun b=>eI (leI 0 (ac_ .i64 (i-1))&&ltI (ac_ .i64 (i-1)) (nI n)) x a (tN (ac_ .i64 (i-1))*5) b b (aO Q a) (aU_.l4 k x n (ac_ .i64 (i+1)) a Q))) (aU_.l4 k x n (ac_ .i64 (i+1)) a Q))) (Q true H):=zz
theorem eG_:ao_ prog 46 (aU_):=sO (eZ rO_ func85 eN) nO func46
def bt_.cx:Cx:=⟨tys,[15],[(6,[4,6,7,15]),(11,[6,8,15])],[],[(16,eg_),(43,dH_),(44,bd_),(45,av_),(38,as_),(46,aU_)],au_,[.tmp 2,.tmp 3]⟩
def bt_:=fF bt_.cx f22
def bt_.l6 k a b c d e f g:=aW_ (bt_.cx) f22 6 k (B 4 (nL a b 2::.bad::.g (.ptr (some (c,d)))::gI e::B 7 (.g (.ptr (some (f,g)))::B 48 [])))
def bt_.l11 k a b c d e:=aW_ (bt_.cx) f22 11 k (B 6 (.g (.ptr (some (a,b)))::.bad::gI c::B 6 (.g (.ptr (some (d,e)))::B 48 [])))
theorem AX_:aw_ bt_.cx f22 (k+1) [.agg [.sl x n 5]] H Q=cZ eg_ [.agg [.sl x n 5]] H 2 fun a b c d=>cn d 0 Q [.s (.ptr (some (ln a,0))),false] (pu a (.row true 55 [.sl none 0 5,.sl none 0 4,.sl none 0 3])) (bt_.l6 k b c (ln a) 0 0 (ln a) 0 (pu a (.row true 55 [.sl none 0 5,.sl none 0 4,.sl none 0 3])) Q):=zz
theorem bt_.l6_eq:bt_.l6 (k+1) x n m l i o N H Q=bg i n (dg (leI 0 i&&ltI i (nI n)) x H (tN i*2) H (tN i*2) (fun a b=>aR dH_ [.g (.ptr (some (m,l))),.agg [a,b]] H Q [.s (.ptr (some (m,l))),false] fun a=>bt_.l6 k x n m l (ac_ .i64 (i+1)) o N a Q)) (bt_.l11 k m l 0 o N H Q):=zz
theorem bt_.l11_eq:bt_.l11 (k+1) n m i l o H Q=ae H n (m+0) 5 fun _ a=>bg i a (db H n (m+0) 5 0 i i (fun a b=>au H a (b+tN i*5+1+0) fun a=>aI bd_ [.g (.ptr (some (n,m))),a] H fun a b=>cn b i Q [.s (.ptr (some (n,m))),false] a (bt_.l11 k n m (ac_ .i64 (i+1)) l o a Q))) (ak av_ [.g (.ptr (some (n,m)))] H (fun a b=>b2_ b (aG as_ [.g (.ptr (some (n,m)))] a 5 (fun a b c=>ak aU_ [nL b c 5] a fun a b=>aC Q [.s (.ptr (some (n,m))),b] a)) (aC Q [.s (.ptr (some (n,m))),false] a))):=zz
theorem fB_:ao_ prog 22 (bt_):=sO (eZ m2_ func16 (eZ oY_ func43 (eZ gI_ func44 (eZ mJ_ func45 (eZ da_ func38 (eZ eG_ func46 eN)))))) nO func22
def a3_.cx:Cx:=⟨tys,[],[(2,[0,3])],[],[(44,bd_)],au_,[.tmp 2]⟩
def a3_:=fF a3_.cx f33
def a3_.l2 k a b:=aW_ (a3_.cx) f33 2 k (gP a::.bad::.bad::gI b::B 21 [])
theorem mI_:aw_ a3_.cx f33 (k+1) [x] H Q=a3_.l2 k x 0 H Q:=zz
theorem a3_.l2_eq:a3_.l2 (k+1) x i H Q=da x H 4 i (dj x H 4 0 i i (fun a b=>au H a (b+tN i*4+0) fun a=>aI bd_ [x,a] H fun a b=>ay b 0 (Q i a) (a3_.l2 k x (ac_ .i64 (i+1)) a Q))) (dY Q .i64 (-1) H):=zz
theorem hM_:ao_ prog 33 (a3_):=sO (eZ gI_ func44 eN) nO func33
def aG_.cx:Cx:=⟨tys,[],[(3,[0,1,4,5,6]),(11,[0,7,8])],[],[(49,aQ_)],au_,[]⟩
def aG_:=fF aG_.cx f52
def aG_.l3 k a b c d e f:=aW_ (aG_.cx) f52 3 k (gP a::gI b::.bad::.bad::gI c::nL d e 4::gI f::B 84 [])
def aG_.l11 k a b c d:=aW_ (aG_.cx) f52 11 k (gP a::B 6 (nL b c 3::gI d::B 82 []))
theorem oF_:aw_ aG_.cx f52 (k+1) [x,i] H Q=dj x H 4 0 i i fun a b=>au H a (b+tN i*4+2) fun a=>aI aQ_ [x,a] H fun a b=>aG_.l3 k x i b none 0 0 a Q:=zz
theorem aG_.l3_eq:aG_.l3 (k+1) x i j y n h H Q=da x H 4 h (cY h i (e8 x H 4 0 h h H (tN h*4) H (tN h*4) H (tN h*4) H (tN h*4) (fun a b c d=>dO H 88 4 40 y n [a,b,c,d] fun a b c=>aG_.l3 k x i j a b (ac_ .i64 (h+1)) c Q)) (aG_.l3 k x i j y n (ac_ .i64 (h+1)) H Q)) (bW x H (.sl y n 4) (fun a=>bC x a 3 fun b c=>cI (leI 0 j&&ltI j (nI c)) b a (tN j*3) fun d=>aD (leI 0 j&&ltI j (nI c)) b fun b c=>wr a b (c+tN j*3+1+0) (ac_ .i64 (d-1)) fun a=>aG_.l11 k x none 0 0 a Q)):=zz
theorem aG_.l11_eq:aG_.l11 (k+1) x y n i H Q=bC x H 3 fun _ a=>bg i a (eM x H 3 0 i i (fun a b=>au H a (b+tN i*3+1+0) fun a=>ay 0 a (eM x H 3 0 i i (fun a b=>au H a (b+tN i*3) fun c=>eD H a (b+tN i*3+1) H a (b+tN i*3+1+1) fun a b=>dO H 92 3 32 y n [c,a,b] fun a b c=>aG_.l11 k x a b (ac_ .i64 (i+1)) c Q)) (aG_.l11 k x y n (ac_ .i64 (i+1)) H Q))) (pS x (fun a b=>bI H a (b+2) (.sl y n 3) Q [])):=zz
theorem iW_:ao_ prog 52 (aG_):=sO (eZ dZ_ func49 eN) nO func52
def bv_.cx:Cx:=⟨tys,[],[(0,[0])],[],[(33,a3_),(52,aG_)],au_,[]⟩
def bv_:=fF bv_.cx f29
def bv_.l0 k a:=aW_ (bv_.cx) f29 0 k (gP a::B 8 [])
theorem bv_.l0_eq:bv_.l0 (k+1) x H Q=aI a3_ [x] H fun a b=>bD 0 b (aI a3_ [x] a (fun a b=>cl aG_ [x,b] a fun _ a=>bv_.l0 k x a Q)) (aC Q [] a):=zz
theorem im_:ao_ prog 29 (bv_):=sO (eZ hM_ func33 (eZ iW_ func52 eN)) nO func29
def fv_.cx:Cx:=⟨tys,[2],[],[],[],au_,[.cell 0 24]⟩
def fv_:=fF fv_.cx f20
theorem z9_:aw_ fv_.cx f20 (k+1) [] H Q=av (leI 0 0&&ltI 0 (nI (tN 48))) (aJ (pu H (.row true 62 (ls_ (tN 48) [.bool false,.bool false,.sl none 0 1,.sl none 0 1,.sl none 0 1]))) (ln H) (0+tN 0*5) true (ln H) (0+tN 0*5+1) true (fun a=>aJ a (ln H) (0+tN 0*5+1+1) (.sl none 0 1) (ln H) (0+tN 0*5+1+1+1) (.sl none 0 1) fun a=>wr a (ln H) (0+tN 0*5+1+1+1+1) (.sl none 0 1) fun a=>dV Q [.sl (some (ln H,0)) (tN 48) 5] a)):=zz
theorem kd_:ao_ prog 20 (fv_):=sO eN nO func20
def e6_.cx:Cx:=⟨tys,[],[],[],[(75,bg_)],au_,[.tmp 2,.tmp 3]⟩
def e6_:=fF e6_.cx f58
theorem sf_:aw_ e6_.cx f58 (k+1) [s] H Q=aR bg_ [s] H Q [mkS [],nN 1600] fun a=>de (mkS [115]) s Q (nN 0) a:=zz
theorem sY_:ao_ prog 58 (e6_):=sO (eZ dc_ func75 eN) nO func58
def e7_.cx:Cx:=⟨tys,[17],[],[],[(95,dQ_)],au_,[.tmp 2,.tmp 3]⟩
def e7_:=fF e7_.cx f59
theorem sq_:aw_ e7_.cx f59 (k+1) [.agg [i,j,s,t]] H Q=cW dQ_ [.agg [i,j,s,t]] H Q [mkS [],nN 1700] (.row true 5 [.int .u8 (ac_ .u8 i),.int .u8 (ac_ .u8 j),.int .u8 (ac_ .u8 (sz s))]) 3 fun a b=>GI_ b s fun b=>de b t Q (nN 0) (pu a (.row true 5 [.int .u8 (ac_ .u8 i),.int .u8 (ac_ .u8 j),.int .u8 (ac_ .u8 (sz s))])):=zz
theorem sI_:ao_ prog 59 (e7_):=sO (eZ lA_ func95 eN) nO func59
def dv_.cx:Cx:=⟨tys,[],[(3,[0,1,6,7])],[],[],au_,[.tmp 4,.tmp 5]⟩
def dv_:=fF dv_.cx f96
def dv_.l3 k a b c d e:=aW_ (dv_.cx) f96 3 k (nL a b 1::gS c::B 4 (gI d::gI e::B 27 []))
theorem yC_:aw_ dv_.cx f96 (k+1) [nL x n 1,s] H Q=dv_.l3 k x n s 0 0 H Q:=zz
theorem dv_.l3_eq:dv_.l3 (k+1) x n s i j H Q=bg j n (eJ (leI 0 j&&ltI j (nI n)) x H (tN j*1) s (dv_.l3 k x n s (ac_ .i64 (i+1)) (ac_ .i64 (j+1)) H Q) (dv_.l3 k x n s i (ac_ .i64 (j+1)) H Q)) (bg i n (aL (leI 0 i&&ltI i (nI n)) x H (tN i*1) (fun a=>aC Q [i,.s (.bool (ey_ a s))] H)) (aC Q [i,false] H)):=zz
theorem zo_:ao_ prog 96 (dv_):=sO eN nO func96
def ge_.cx:Cx:=⟨tys,[],[],[],[],au_,[.tmp 2]⟩
def ge_:=fF ge_.cx f137
theorem wZ_:aw_ ge_.cx f137 (k+1) [nL x n 1] H Q=aS (du H x (n*1) H 9 1 16 n (fun a=>eK Q (some (ln H,0)) n 1 a)):=zz
theorem w6_:ao_ prog 137 (ge_):=sO eN nO func137
def h2_.cx:Cx:=⟨tys,[],[],[],[],au_,[.tmp 2]⟩
def h2_:=fF h2_.cx f138
theorem yo_:aw_ h2_.cx f138 (k+1) [nL x n 1] H Q=aS (du H x (n*1) H 3 1 8 n (fun a=>eK Q (some (ln H,0)) n 1 a)):=zz
theorem yV_:ao_ prog 138 (h2_):=sO eN nO func138
def ca_.cx:Cx:=⟨tys,[],[(3,[1,2,3,4])],[],[(137,ge_),(138,h2_)],au_,[.cell 2 24]⟩
def ca_:=fF ca_.cx f97
def ca_.l3 k a b c d e f g:=aW_ (ca_.cx) f97 3 k (.bad::.bx [.sl a b 5]::.bx [.sl c d 5]::.bx [.sl e f 5]::gI g::B 32 [])
theorem sZ_:aw_ ca_.cx f97 (k+1) [.agg [.sl x n 5]] H Q=ca_.l3 k x n none 0 none 0 0 H Q:=zz
theorem ca_.l3_eq:ca_.l3 (k+1) x n y m z l i H Q=bg i n (dN (leI 0 i&&ltI i (nI n)) x H (tN i*5) H H 1 H 1 H 1 (fun a b c d e f g h=>aG ge_ [nL c d 1] H 1 fun c d j=>aG ge_ [nL e f 1] c 1 fun c e f=>aG h2_ [nL g h 1] c 1 fun c g h=>dO c 62 5 80 z l [a,b,.sl d j 1,.sl e f 1,.sl g h 1] fun a b c=>ca_.l3 k x n y m a b (ac_ .i64 (i+1)) c Q)) (dV Q [.sl z l 5] H):=zz
theorem r6_:ao_ prog 97 (ca_):=sO (eZ w6_ func137 (eZ yV_ func138 eN)) nO func97
def cI_.cx:Cx:=⟨tys,[],[(4,[0,5,6,7]),(2000000,[6])],[],[],au_,[.tmp 4]⟩
def cI_:=fF cI_.cx f140
def cI_.l4 k a b c d e:=aW_ (cI_.cx) f140 4 k (gI a::B 4 (gI b::nL c d 1::gI e::B 28 []))
theorem wS_:aw_ cI_.cx f140 (k+1) [i,j] H Q=chk (!(eqI j 0)) (cI_.l4 k i (mxI 1 (ac_ .i64 (Int.tdiv (ac_ .i64 (ac_ .i64 (i+j)-1)) j))) none 0 0 H Q):=zz
theorem cI_.l4_eq:cI_.l4 (k+1) i j x n h H Q=ay h j (ah (!(eqI j 0)) (!(eqI j 0)) (dO H 3 1 8 x n [ac_ .i64 (ac_ .i64 (Int.tdiv (ac_ .i64 (i*ac_ .i64 (h+1))) j)-ac_ .i64 (Int.tdiv (ac_ .i64 (i*h)) j))] (fun a b c=>cI_.l4 k i j a b (ac_ .i64 (h+1)) c Q))) (eK Q x n 1 H):=zz
theorem pf_:ao_ prog 140 (cI_):=sO eN nO func140
def a7_.cx:Cx:=⟨tys,[],[(5,[0,2,3,4,5,6]),(9,[0,2,3,4,5,6,7,8])],[(16,[0,2,3,4,5,6,7,9])],[(140,cI_)],au_,[.cell 2 206]⟩
def a7_:=fF a7_.cx f139
def a7_.l5 k a b c d e f g h i j l m n o:=aW_ (a7_.cx) f139 5 k (nL a b 2::.bad::.bx [.sl c d 5,.sl e f 1]::.bx [.sl g h 5,.sl i j 1]::nL l m 1::gI n::gI o::B 73 [])
def a7_.l9 k a b c d e f g h i j l m n o p q r s t u v w x:=aW_ (a7_.cx) f139 9 k (nL a b 2::.bad::.bx [.sl c d 5,.sl e f 1]::.bx [.sl g h 5,.sl i j 1]::nL l m 1::gI n::gI o::.bx [.bool p,.bool q,.sl r s 1,.sl t u 1,.sl v w 1]::gI x::B 71 [])
def a7_.l16 k a b c d e f g h i j l m n o p q r s t u v w x:=aW_ (a7_.cx) f139 16 k (nL a b 2::.bad::.bx [.sl c d 5,.sl e f 1]::.bx [.sl g h 5,.sl i j 1]::nL l m 1::gI n::gI o::.bx [.bool p,.bool q,.sl r s 1,.sl t u 1,.sl v w 1]::.bad::gS x::B 70 [])
theorem vr_:aw_ a7_.cx f139 (k+1) [nL x n 2] H Q=aG cI_ [nI n,nN 4] H 1 fun a b c=>a7_.l5 k x n none 0 none 0 none 0 none 0 b c 0 0 a Q:=zz
theorem a7_.l5_eq:a7_.l5 (k+1) x n y m z l u o w N X M i j H Q=bg j M (a7_.l9 k x n y m z l u o w N X M i j true true none 0 none 0 none 0 i H Q) (dV Q [.sl u o 5,.sl w N 1] H):=zz
theorem a7_.l9_eq:a7_.l9 (k+1) x n y m z l u o w N X M i j b c Y L Z O U D h H Q=aN (leI 0 j&&ltI j (nI M)) X H (tN j*1) fun a=>ay h (ac_ .i64 (i+a)) (bo (leI 0 h&&ltI h (nI n)) x H (tN h*2) (fun a=>dO H 9 1 16 Y L [a] fun a d e=>aD (leI 0 h&&ltI h (nI n)) x fun f g=>aj e f (g+tN h*2+1) fun f=>dO e 9 1 16 Z O [f] fun e f g=>a7_.l9 k x n y m z l u o w N X M i j b c a d e f U D (ac_ .i64 (h+1)) g Q)) (aN (leI 0 j&&ltI j (nI M)) X H (tN j*1) (fun a=>ay 0 a (bo (leI 0 i&&ltI i (nI n)) x H (tN i*2) (fun a=>a7_.l16 k x n y m z l u o w N X M i j b c Y L Z O U D a H Q)) (a7_.l16 k x n y m z l u o w N X M i j b c Y L Z O U D (mkS []) H Q))):=zz
theorem a7_.l16_eq:a7_.l16 (k+1) x n y m z l u o w N X M i j b c Y L Z O U D s H Q=dO H 62 5 80 u o [b,c,.sl Y L 1,.sl Z O 1,.sl U D 1] fun a b c=>dO c 9 1 16 w N [s] fun c d e=>aN (leI 0 j&&ltI j (nI M)) X e (tN j*1) fun f=>a7_.l5 k x n y m z l a b c d X M (ac_ .i64 (i+f)) (ac_ .i64 (j+1)) e Q:=zz
theorem uJ_:ao_ prog 139 (a7_):=sO (eZ pf_ func140 eN) nO func139
def bc_.cx:Cx:=⟨tys,[],[(4,[2,3,4,5]),(9,[2,3,4,5,6,7,8,9]),(13,[2,3,4,5,6,7,8,9,10,11])],[],[(20,fv_),(139,a7_),(140,cI_)],au_,[.cell 2 24]⟩
def bc_:=fF bc_.cx f98
def bc_.l4 k a b c d e f g h i:=aW_ (bc_.cx) f98 4 k (.bad::.bad::.bx [.sl a b 5]::.bx [.sl c d 5]::.bx [.sl e f 5,.sl g h 1]::gI i::B 96 [])
def bc_.l9 k a b c d e f g h i j l m n o p q r:=aW_ (bc_.cx) f98 9 k (.bad::.bad::.bx [.sl a b 5]::.bx [.sl c d 5]::.bx [.sl e f 5,.sl g h 1]::gI i::.bx [.sl j l 5,.sl m n 1]::nL o p 1::gI q::gI r::B 92 [])
def bc_.l13 k a b c d e f g h i j l m n o p q r s t u v w x y z A:=aW_ (bc_.cx) f98 13 k (.bad::.bad::.bx [.sl a b 5]::.bx [.sl c d 5]::.bx [.sl e f 5,.sl g h 1]::gI i::.bx [.sl j l 5,.sl m n 1]::nL o p 1::gI q::gI r::.bx [.bool s,.bool t,.sl u v 1,.sl w x 1,.sl y z 1]::gI A::B 90 [])
theorem w1_:aw_ bc_.cx f98 (k+1) [nL x n 2] H Q=bG fv_ [] H 5 fun a b c=>bd a7_ [nL x n 2] a fun a d=>cH d 5 1 fun d e f g=>bc_.l4 k none 0 b c d e f g 1 a Q:=zz
theorem bc_.l4_eq:bc_.l4 (k+1) x n y m z l u o i H Q=bg 1 l (aG cI_ [nI l,nN 5] H 1 (fun a b c=>bc_.l9 k x n y m z l u o i none 0 none 0 b c 0 0 a Q)) (cG (leI 0 0&&ltI 0 (nI l)) z H (tN 0*5) H (tN 0*5) H (tN 0*5) 1 H (tN 0*5) 1 H (tN 0*5) 1 (leI 0 0&&ltI 0 (nI m)) y H (tN 0*5) (tN 0*5) (tN 0*5) (tN 0*5) (tN 0*5) (fun a=>dV Q [.sl y m 5] a)):=zz
theorem bc_.l9_eq:bc_.l9 (k+1) x n y m z l u o i w N X M Y L j h H Q=bg h L (bc_.l13 k x n y m z l u o i w N X M Y L j h true false none 0 none 0 none 0 j H Q) (bc_.l4 k x n y m w N X M i H Q):=zz
theorem bc_.l13_eq:bc_.l13 (k+1) x n y m z l u o i w N X M Y L j h b c Z O U D x1 n1 g H Q=aN (leI 0 h&&ltI h (nI L)) Y H (tN h*1) fun a=>ay g (ac_ .i64 (j+a)) (cG (leI 0 g&&ltI g (nI l)) z H (tN g*5) H (tN g*5) H (tN g*5) 1 H (tN g*5) 1 H (tN g*5) 1 (leI 0 i&&ltI i (nI m)) y H (tN i*5) (tN i*5) (tN i*5) (tN i*5) (tN i*5) (fun a=>dO a 3 1 8 x1 n1 [i] fun a d e=>ay j g (aL (leI 0 g&&ltI g (nI o)) u e (tN g*1) (fun f=>dO e 9 1 16 Z O [f] fun e f p=>bc_.l13 k x n y m z l u o (ac_ .i64 (i+1)) w N X M Y L j h b c e f U D a d (ac_ .i64 (g+1)) p Q)) (bc_.l13 k x n y m z l u o (ac_ .i64 (i+1)) w N X M Y L j h b c Z O U D a d (ac_ .i64 (g+1)) e Q))) (dO H 62 5 80 w N [b,c,.sl Z O 1,.sl U D 1,.sl x1 n1 1] (fun a b c=>aL (leI 0 j&&ltI j (nI o)) u c (tN j*1) fun d=>dO c 9 1 16 X M [d] fun c d e=>aN (leI 0 h&&ltI h (nI L)) Y e (tN h*1) fun f=>bc_.l9 k x n y m z l u o i a b c d Y L (ac_ .i64 (j+f)) (ac_ .i64 (h+1)) e Q)):=zz
theorem w2_:ao_ prog 98 (bc_):=sO (eZ kd_ func20 (eZ uJ_ func139 (eZ pf_ func140 eN))) nO func98
def bn_.cx:Cx:=⟨tys,[],[(4,[1,2,3,6,8]),(15,[1,2,6,12,13])],[],[(36,fM_),(96,dv_),(97,ca_),(37,bs_),(98,bc_)],au_,[.cell 6 24,.tmp 7]⟩
def bn_:=fF bn_.cx f60
def bn_.l4 k a b c d e f g:=aW_ (bn_.cx) f60 4 k (.bad::gS a::gS b::.bx [.sl c d 5]::.bad::.bad::.bx [.sl e f 5]::.bad::gI g::B 103 [])
def bn_.l15 k a b c d e f g:=aW_ (bn_.cx) f60 15 k (.bad::gS a::gS b::B 3 (.bx [.sl c d 5]::B 5 (nL e f 2::gI g::B 98 [])))
theorem u9_:aw_ bn_.cx f60 (k+1) [.agg [.sl x n 5],s,t] H Q=aR fM_ [.agg [.sl x n 5]] H Q [.a [.sl none 0 5],nN 1200] fun a=>d5 (sz s) 1 Q [.a [.sl none 0 5],nN 1200] a (d5 6 (sz s) Q [.a [.sl none 0 5],nN 1200] a (d5 10 (sz t) Q [.a [.sl none 0 5],nN 1200] a (bn_.l4 k s t x n none 0 0 a Q))):=zz
theorem bn_.l4_eq:bn_.l4 (k+1) s t x n y m i H Q=bg i n (aD (leI 0 i&&ltI i (nI n)) x (fun a b=>dW H a (b+tN i*5+2) fun a b=>cX dv_ [nL a b 1,s] H fun a b c=>aD (leI 0 i&&ltI i (nI n)) x fun d e=>dh a d (e+tN i*5+1) (b2_ c (bG ca_ [.agg [.sl x n 5]] a 5 (fun a c d=>aD (leI 0 i&&ltI i (nI d)) c fun e f=>db a e (f+tN i*5+3) 1 0 b b fun e f=>bI a e (f+tN b*1) t Q [.a [.sl c d 5],nN 0])) (bn_.l4 k s t x n y m (ac_ .i64 (i+1)) a Q)) (bn_.l4 k s t x n y m (ac_ .i64 (i+1)) a Q))) (aG bs_ [.agg [.sl x n 5],nN 0,nL none 0 2] H 2 (fun a b c=>d6 60 (nI c) Q [.a [.sl none 0 5],nN 1201] a (bn_.l15 k s t y m b c 0 a Q))):=zz
theorem bn_.l15_eq:bn_.l15 (k+1) s t x n y m i H Q=bg i m (bo (leI 0 i&&ltI i (nI m)) y H (tN i*2) (fun a=>b2_ (dN_ a s) (bn_.l15 k s t x n y m (ac_ .i64 (i+1)) H Q) (cD 0 i (ah (leN 0 (tN i)&&(leN (tN i) m||mM_ H y (tN i*2))) true (dw H (shf y 0) ((tN i-0)*2) H 74 2 32 none 0 (tN i-0) (fun a b c=>dO c 74 2 32 a b [s,t] fun a b c=>cD 0 i (ah (leN (tN i) m) true (dw c (shf y (tN i*2)) ((m-tN i)*2) c 74 2 32 a b (m-tN i) (fun a b c=>bH bc_ [nL a b 2] c 5 Q (nN 0)))))))))) (cD 0 i (ah (leN 0 (tN i)&&(leN (tN i) m||mM_ H y (tN i*2))) true (dw H (shf y 0) ((tN i-0)*2) H 74 2 32 none 0 (tN i-0) (fun a b c=>dO c 74 2 32 a b [s,t] fun a b c=>cD 0 i (ah (leN (tN i) m) true (dw c (shf y (tN i*2)) ((m-tN i)*2) c 74 2 32 a b (m-tN i) (fun a b c=>bH bc_ [nL a b 2] c 5 Q (nN 0)))))))):=zz
theorem we_:ao_ prog 60 (bn_):=sO (eZ oZ_ func36 (eZ zo_ func96 (eZ r6_ func97 (eZ ts_ func37 (eZ w2_ func98 eN))))) nO func60
def fa_.cx:Cx:=⟨tys,[16],[],[],[(99,de_),(89,cl_)],au_,[.tmp 4,.tmp 5]⟩
def fa_:=fF fa_.cx f61
theorem sj_:aw_ fa_.cx f61 (k+1) [i,s] H Q=aR de_ [i] H Q [mkS [],nN 1600] fun a=>dR cl_ [s] a Q [mkS [],nN 1600] (.row true 5 [.int .u8 102,.int .u8 (ac_ .u8 i)]) 2 s Q (nN 0):=zz
theorem sC_:ao_ prog 61 (fa_):=sO (eZ hm_ func99 (eZ gA_ func89 eN)) nO func61
def eJ_.cx:Cx:=⟨tys,[9],[],[],[(99,de_)],au_,[.tmp 2,.tmp 3]⟩
def eJ_:=fF eJ_.cx f62
theorem q2_:aw_ eJ_.cx f62 (k+1) [i] H Q=cW de_ [i] H Q [mkS [],nN 1600] (.row true 5 [.int .u8 105,.int .u8 (ac_ .u8 i)]) 2 fun a b=>aC Q [b,nN 0] (pu a (.row true 5 [.int .u8 105,.int .u8 (ac_ .u8 i)])):=zz
theorem qr_:ao_ prog 62 (eJ_):=sO (eZ hm_ func99 eN) nO func62
def eH_.cx:Cx:=⟨tys,[10],[],[],[(100,ds_)],au_,[.tmp 2,.tmp 3]⟩
def eH_:=fF eH_.cx f63
theorem rs_:aw_ eH_.cx f63 (k+1) [.agg [i,s]] H Q=dR ds_ [.agg [i,s]] H Q [mkS [],nN 1800] (.row true 5 [.int .u8 (ac_ .u8 i)]) 1 s Q (nN 0):=zz
theorem qY_:ao_ prog 63 (eH_):=sO (eZ kt_ func100 eN) nO func63
def aq_.cx:Cx:=⟨tys,[93],[(3,[0,2,3,4]),(9,[0,2,3,9]),(18,[0,2,3,14])],[(16,[0,2,3,9,10,11,13])],[(20,fv_),(58,e6_),(59,e7_),(60,bn_),(61,fa_),(62,eJ_),(63,eH_)],au_,[.cell 2 24]⟩
def aq_:=fF aq_.cx f30
def aq_.l3 k a b c d e f:=aW_ (aq_.cx) f30 3 k (gP a::.bad::.bx [.sl b c 5]::.bx [.sl d e 5]::gI f::B 134 [])
def aq_.l9 k a b c d e f:=aW_ (aq_.cx) f30 9 k (gP a::.bad::.bx [.sl b c 5]::.bx [.sl d e 5]::B 5 (gI f::B 129 []))
def aq_.l16 k a b c d e f g h i j l m:=aW_ (aq_.cx) f30 16 k (gP a::.bad::.bx [.sl b c 5]::.bx [.sl d e 5]::B 5 (gI f::.bx [.int .i64 g,.str h,.int .i64 i,.bool j]::gS l::.bad::.g (.int .u8 m)::B 125 []))
def aq_.l18 k a b c d e f:=aW_ (aq_.cx) f30 18 k (gP a::.bad::.bx [.sl b c 5]::.bx [.sl d e 5]::B 10 (gI f::B 124 []))
theorem oI_:aw_ aq_.cx f30 (k+1) [x] H Q=bG fv_ [] H 5 fun a b c=>aq_.l3 k x none 0 b c 0 a Q:=zz
theorem aq_.l3_eq:aq_.l3 (k+1) x y n z m i H Q=aY x H 5 fun _ a=>bg i a (cL x H 5 0 i i (fun a b=>aj H a (b+tN i*5+0) fun a=>dG e6_ [a] H fun a b=>cL x a 5 0 i i fun c d=>au a c (d+tN i*5+1) fun e=>eD a c (d+tN i*5+1+1) a c (d+tN i*5+1+1+1) fun f g=>aj a c (d+tN i*5+1+1+1+1) fun c=>dG e7_ [.agg [e,f,g,c]] a fun a c=>dv bn_ [.agg [.sl z m 5],b,c] a 5 fun a b c=>aq_.l3 k x y n b c (ac_ .i64 (i+1)) a Q)) (aq_.l9 k x y n z m 0 H Q):=zz
theorem aq_.l9_eq:aq_.l9 (k+1) x y n z m i H Q=da x H 4 i (e8 x H 4 0 i i H (tN i*4) H (tN i*4) H (tN i*4) H (tN i*4) (fun a b c d=>dG fa_ [a,b] H fun e f=>b2_ d (aq_.l16 k x y n z m i a b c d f 1 e Q) (aq_.l16 k x y n z m i a b c d f 0 e Q))) (aq_.l18 k x y n z m 0 H Q):=zz
theorem aq_.l16_eq:aq_.l16 (k+1) x y n z m i j s h b t g H Q=rdN (pu H (.row true 5 [.int .u8 (ac_ .u8 h),.int .u8 g])) (some (ln H,0)) 2 fun a=>txt a fun a=>dv bn_ [.agg [.sl z m 5],t,a] (pu H (.row true 5 [.int .u8 (ac_ .u8 h),.int .u8 g])) 5 fun a b c=>aq_.l9 k x y n b c (ac_ .i64 (i+1)) a Q:=zz
theorem aq_.l18_eq:aq_.l18 (k+1) x y n z m i H Q=bC x H 3 fun _ a=>bg i a (eM x H 3 0 i i (fun a b=>au H a (b+tN i*3+0) fun a=>dG eJ_ [a] H fun a b=>eM x a 3 0 i i fun c d=>eD a c (d+tN i*3+1) a c (d+tN i*3+1+1) fun c d=>dG eH_ [.agg [c,d]] a fun a c=>dv bn_ [.agg [.sl z m 5],b,c] a 5 fun a b c=>aq_.l18 k x y n b c (ac_ .i64 (i+1)) a Q)) (dV Q [.sl z m 5] H):=zz
theorem iY_:ao_ prog 30 (aq_):=sO (eZ kd_ func20 (eZ sY_ func58 (eZ sI_ func59 (eZ we_ func60 (eZ sC_ func61 (eZ qr_ func62 (eZ qY_ func63 eN))))))) nO func30
def gd_.cx:Cx:=⟨tys,[],[],[],[(22,bt_),(29,bv_),(30,aq_)],au_,[.cell 2 24,.tmp 3]⟩
def gd_:=fF gd_.cx f10
theorem uX_:aw_ gd_.cx f10 (k+1) [.agg [.sl x n 5]] H Q=eQ bt_ [.agg [.sl x n 5]] H Q [.a [.sl none 0 5],nN 2000] fun a b=>cl bv_ [b] a fun _ a=>bH aq_ [b] a 5 Q (nN 0):=zz
theorem vl_:ao_ prog 10 (gd_):=sO (eZ fB_ func22 (eZ im_ func29 (eZ iY_ func30 eN))) nO func10
def dd_.cx:Cx:=⟨tys,[],[],[],[],au_,[.tmp 2]⟩
def dd_:=fF dd_.cx f11
theorem hc_:ao_ prog 11 (dd_):=sO eN nO func11
def d6_.cx:Cx:=⟨tys,[],[],[],[(56,aC_)],au_,[.tmp 2]⟩
def d6_:=fF d6_.cx f32
theorem nF_:aw_ d6_.cx f32 (k+1) [x] H Q=aG aC_ [x] H 2 fun a _ b=>di Q (nI b) 0 a:=zz
theorem nn_:ao_ prog 32 (d6_):=sO (eZ hA_ func56 eN) nO func32
end Go.Am
namespace Go.Am
open List
open Go.Proofs.Tryz
variable {E:Nat→Sm}{k:Nat}{H:Hp}{Q:Post}{U X Y Z u w x x1 y z:Pl}{D L M N O l m n n1 o:Nat}{I g h i j:Int}{C b b1 b2 c d:Bool}{R S e r s t:ByteArray}{A a:Option Nat}{p q:List (Nat×Nat)}{F:Sm}
def cn_.cx E:=(⟨tys,[],[],[],[(31,(dz_ E)),(32,d6_)],E,[.tmp 2]⟩:Cx)
def cn_ E:=fF (cn_.cx E) f12
theorem uH_:aw_ (cn_.cx E) f12 (k+1) [.agg [.sl x n 5]] H Q=cN (dz_ E) [.agg [.sl x n 5]] H fun a b c=>aW c Q a (bv d6_ [b] a Q):=zz
theorem hD_(E)(h:eE E):ao_ prog 12 (cn_ E):=sO (eZ (tb_ E h) func31 (eZ nn_ func32 eN)) h func12
def ev_.cx:Cx:=⟨tys,[],[],[],[(22,bt_),(33,a3_)],au_,[.tmp 2]⟩
def ev_:=fF ev_.cx f13
theorem uT_:aw_ ev_.cx f13 (k+1) [.agg [.sl x n 5]] H Q=cN bt_ [.agg [.sl x n 5]] H fun a b c=>aW c Q a (aI a3_ [b] a (fun a b=>cU Q (ltI b 0) a)):=zz
theorem nJ_:ao_ prog 13 (ev_):=sO (eZ fB_ func22 (eZ hM_ func33 eN)) nO func13
def bQ_.cx:Cx:=⟨tys,[],[(4,[0,1,5])],[],[],au_,[.tmp 4]⟩
def bQ_:=fF bQ_.cx f70
def bQ_.l4 k a b c d e:=aW_ (bQ_.cx) f70 4 k (nL a b 1::nL c d 1::B 3 (gI e::B 20 []))
theorem kp_:aw_ bQ_.cx f70 (k+1) [nL x n 1,nL y m 1] H Q=dt (nI n) (nI m) Q H (bQ_.l4 k x n y m 0 H Q):=zz
theorem bQ_.l4_eq:bQ_.l4 (k+1) x n y m i H Q=bg i n (aL (leI 0 i&&ltI i (nI n)) x H (tN i*1) (fun a=>aL (leI 0 i&&ltI i (nI m)) y H (tN i*1) fun b=>bz (ey_ a b) Q H (bQ_.l4 k x n y m (ac_ .i64 (i+1)) H Q))) (Q true H):=zz
theorem re_:ao_ prog 70 (bQ_):=sO eN nO func70
def b9_.cx:Cx:=⟨tys,[],[(4,[0,1,5])],[],[],au_,[.tmp 4]⟩
def b9_:=fF b9_.cx f71
def b9_.l4 k a b c d e:=aW_ (b9_.cx) f71 4 k (nL a b 1::nL c d 1::B 3 (gI e::B 20 []))
theorem lz_:aw_ b9_.cx f71 (k+1) [nL x n 1,nL y m 1] H Q=dt (nI n) (nI m) Q H (b9_.l4 k x n y m 0 H Q):=zz
theorem b9_.l4_eq:b9_.l4 (k+1) x n y m i H Q=bg i n (aN (leI 0 i&&ltI i (nI n)) x H (tN i*1) (fun a=>aN (leI 0 i&&ltI i (nI m)) y H (tN i*1) fun b=>dt a b Q H (b9_.l4 k x n y m (ac_ .i64 (i+1)) H Q))) (Q true H):=zz
theorem sU_:ao_ prog 71 (b9_):=sO eN nO func71
def fd_.cx:Cx:=⟨tys,[],[],[],[(70,bQ_),(71,b9_)],au_,[.tmp 4]⟩
def fd_:=fF fd_.cx f34
theorem si_:aw_ fd_.cx f34 (k+1) [.agg [b,c,.sl x n 1,.sl y m 1,.sl z l 1],.agg [C,d,.sl u o 1,.sl w N 1,.sl X M 1]] H Q=aW (eqB b C) Q H (aW (eqB c d) Q H (bY bQ_ [nL x n 1,nL u o 1] H Q (fun a=>d7 bQ_ [nL y m 1,nL w N 1] a Q b9_ [nL z l 1,nL X M 1] Q))):=zz
theorem s5_:ao_ prog 34 (fd_):=sO (eZ re_ func70 (eZ sU_ func71 eN)) nO func34
def bb_.cx:Cx:=⟨tys,[],[(4,[2,3,5])],[],[(34,fd_)],au_,[.tmp 4]⟩
def bb_:=fF bb_.cx f14
def bb_.l4 k a b c d e:=aW_ (bb_.cx) f14 4 k (.bad::.bad::.bx [.sl a b 5]::.bx [.sl c d 5]::.bad::gI e::B 26 [])
theorem rD_:aw_ bb_.cx f14 (k+1) [.agg [.sl x n 5],.agg [.sl y m 5]] H Q=dt (nI n) (nI m) Q H (bb_.l4 k x n y m 0 H Q):=zz
theorem bb_.l4_eq:bb_.l4 (k+1) x n y m i H Q=bg i n (dN (leI 0 i&&ltI i (nI n)) x H (tN i*5) H H 1 H 1 H 1 (fun a b c d e f g h=>dN (leI 0 i&&ltI i (nI m)) y H (tN i*5) H H 1 H 1 H 1 fun j l o p q r s t=>bA fd_ [.agg [a,b,.sl c d 1,.sl e f 1,.sl g h 1],.agg [j,l,.sl o p 1,.sl q r 1,.sl s t 1]] H Q fun a=>bb_.l4 k x n y m (ac_ .i64 (i+1)) a Q)) (Q true H):=zz
theorem fp_:ao_ prog 14 (bb_):=sO (eZ s5_ func34 eN) nO func14
def a9_.cx:Cx:=⟨tys,[],[(3,[0,3,4])],[],[],au_,[.tmp 2]⟩
def a9_:=fF a9_.cx f77
def a9_.l3 k a b c d e:=aW_ (a9_.cx) f77 3 k (nL a b 5::.bad::.bad::nL c d 5::gI e::B 21 [])
theorem xa_:aw_ a9_.cx f77 (k+1) [nL x n 5] H Q=a9_.l3 k x n none 0 0 H Q:=zz
theorem a9_.l3_eq:a9_.l3 (k+1) x n y m i H Q=bg i n (cS (leI 0 i&&ltI i (nI n)) x H (tN i*5) H H H H 3 (fun a b c d e f=>aS (du H e (f*3) H 122 3 40 f (fun e=>dO e 45 5 80 y m [a,b,c,d,.sl (some (ln H,0)) f 3] fun a b c=>a9_.l3 k x n a b (ac_ .i64 (i+1)) c Q)))) (eK Q y m 5 H):=zz
theorem h9_:ao_ prog 77 (a9_):=sO eN nO func77
def a6_.cx:Cx:=⟨tys,[],[(4,[0,3,5,6,7])],[(9,[0,3,5,6,7])],[],au_,[.tmp 4]⟩
def a6_:=fF a6_.cx f86
def a6_.l4 k a b c d e f g h i j l m:=aW_ (a6_.cx) f86 4 k (nL a b 5::.bad::.bad::.bx [.str c,.int .i64 d,.str e,.str f,.sl g h 3]::.bad::nL i j 5::gB l::gI m::B 36 [])
def a6_.l9 k a b c d e f g h i j l m:=aW_ (a6_.cx) f86 9 k (nL a b 5::.bad::.bad::.bx [.str c,.int .i64 d,.str e,.str f,.sl g h 3]::.bad::nL i j 5::gB l::gI m::B 36 [])
theorem xh_:aw_ a6_.cx f86 (k+1) [nL x n 5,.agg [s,i,t,r,.sl y m 3]] H Q=a6_.l4 k x n s i t r y m none 0 false 0 H Q:=zz
theorem a6_.l4_eq:a6_.l4 (k+1) x n s i t r y m z l b j H Q=bg j n (aE b (bo (leI 0 j&&ltI j (nI n)) x H (tN j*5) (fun a=>aE (dN_ a s||ey_ a s) (dO H 45 5 80 z l [s,i,t,r,.sl y m 3] (fun a b c=>a6_.l9 k x n s i t r y m a b true j c Q)) (a6_.l9 k x n s i t r y m z l b j H Q))) (a6_.l9 k x n s i t r y m z l b j H Q)) (aE b (dO H 45 5 80 z l [s,i,t,r,.sl y m 3] (fun a b c=>eK Q a b 5 c)) (eK Q z l 5 H)):=zz
theorem a6_.l9_eq:a6_.l9 (k+1) x n s i t r y m z l b j H Q=cS (leI 0 j&&ltI j (nI n)) x H (tN j*5) H H H H 3 fun a c d e f g=>dO H 45 5 80 z l [a,c,d,e,.sl f g 3] fun a c d=>a6_.l4 k x n s i t r y m a c b (ac_ .i64 (j+1)) d Q:=zz
theorem pa_:ao_ prog 86 (a6_):=sO eN nO func86
def be_.cx:Cx:=⟨tys,[],[(17,[0,10,11,12])],[],[(74,b1_),(46,aU_),(75,bg_),(77,a9_),(86,a6_)],au_,[.tmp 8,.tmp 9]⟩
def be_:=fF be_.cx f47
def be_.l17 k a b c d e f g h i j:=aW_ (be_.cx) f47 17 k (nL a b 5::B 9 (gI c::.bx [.str d,.int .i64 e,.str f,.str g,.sl h i 3]::gI j::B 87 []))
theorem rW_:aw_ be_.cx f47 (k+1) [nL x n 5,s,t,i] H Q=aI b1_ [nL x n 5,t] H fun a b=>dA aU_ [nL x n 5] a Q [.s (.sl none 0 5),nN 1900] bg_ [s] Q [.s (.sl none 0 5),nN 1901] fun a=>ew t [] (aR bg_ [t] a Q [.s (.sl none 0 5),nN 1901] (fun a=>cY i 0 (cn i 1 Q [.s (.sl none 0 5),nN 1905] a (aI b1_ [nL x n 5,s] a (fun a c=>d6 0 c Q [.s (.sl none 0 5),nN 1902] a (ew t [] (d5 b 0 Q [.s (.sl none 0 5),nN 1904] a (cA (leI 0 b&&ltI b (nI n)) x a (tN b*5) (fun c=>cn c 2 Q [.s (.sl none 0 5),nN 1904] a (d6 6 (nI n) Q [.s (.sl none 0 5),nN 1910] a (bD 0 b (be_.l17 k x n b s i t (mkS []) none 0 0 a Q) (eG a9_ [nL x n 5] a 5 a6_ [s,i,t,mkS [],.sl none 0 3] 5 Q (nN 0))))))) (d6 6 (nI n) Q [.s (.sl none 0 5),nN 1910] a (bD 0 b (be_.l17 k x n b s i t (mkS []) none 0 0 a Q) (eG a9_ [nL x n 5] a 5 a6_ [s,i,t,mkS [],.sl none 0 3] 5 Q (nN 0)))))))) (aI b1_ [nL x n 5,s] a (fun a c=>d6 0 c Q [.s (.sl none 0 5),nN 1902] a (ew t [] (d5 b 0 Q [.s (.sl none 0 5),nN 1904] a (cA (leI 0 b&&ltI b (nI n)) x a (tN b*5) (fun c=>cn c 2 Q [.s (.sl none 0 5),nN 1904] a (d6 6 (nI n) Q [.s (.sl none 0 5),nN 1910] a (bD 0 b (be_.l17 k x n b s i t (mkS []) none 0 0 a Q) (eG a9_ [nL x n 5] a 5 a6_ [s,i,t,mkS [],.sl none 0 3] 5 Q (nN 0))))))) (d6 6 (nI n) Q [.s (.sl none 0 5),nN 1910] a (bD 0 b (be_.l17 k x n b s i t (mkS []) none 0 0 a Q) (eG a9_ [nL x n 5] a 5 a6_ [s,i,t,mkS [],.sl none 0 3] 5 Q (nN 0))))))))) (cY i 0 (cn i 1 Q [.s (.sl none 0 5),nN 1905] a (aI b1_ [nL x n 5,s] a (fun a c=>d6 0 c Q [.s (.sl none 0 5),nN 1902] a (ew t [] (d5 b 0 Q [.s (.sl none 0 5),nN 1904] a (cA (leI 0 b&&ltI b (nI n)) x a (tN b*5) (fun c=>cn c 2 Q [.s (.sl none 0 5),nN 1904] a (d6 6 (nI n) Q [.s (.sl none 0 5),nN 1910] a (bD 0 b (be_.l17 k x n b s i t (mkS []) none 0 0 a Q) (eG a9_ [nL x n 5] a 5 a6_ [s,i,t,mkS [],.sl none 0 3] 5 Q (nN 0))))))) (d6 6 (nI n) Q [.s (.sl none 0 5),nN 1910] a (bD 0 b (be_.l17 k x n b s i t (mkS []) none 0 0 a Q) (eG a9_ [nL x n 5] a 5 a6_ [s,i,t,mkS [],.sl none 0 3] 5 Q (nN 0)))))))) (aI b1_ [nL x n 5,s] a (fun a c=>d6 0 c Q [.s (.sl none 0 5),nN 1902] a (ew t [] (d5 b 0 Q [.s (.sl none 0 5),nN 1904] a (cA (leI 0 b&&ltI b (nI n)) x a (tN b*5) (fun c=>cn c 2 Q [.s (.sl none 0 5),nN 1904] a (d6 6 (nI n) Q [.s (.sl none 0 5),nN 1910] a (bD 0 b (be_.l17 k x n b s i t (mkS []) none 0 0 a Q) (eG a9_ [nL x n 5] a 5 a6_ [s,i,t,mkS [],.sl none 0 3] 5 Q (nN 0))))))) (d6 6 (nI n) Q [.s (.sl none 0 5),nN 1910] a (bD 0 b (be_.l17 k x n b s i t (mkS []) none 0 0 a Q) (eG a9_ [nL x n 5] a 5 a6_ [s,i,t,mkS [],.sl none 0 3] 5 Q (nN 0)))))))):=zz
theorem be_.l17_eq:be_.l17 (k+1) x n i s j t r y m h H Q=cJ (leI 0 i&&ltI i (nI n)) x H (tN i*5) 3 fun _ a=>bg h a (dy (leI 0 i&&ltI i (nI n)) x H (tN i*5) 3 0 h h (fun a b=>aj H a (b+tN h*3) fun c=>aj H a (b+tN h*3+1) fun d=>aF H a (b+tN h*3+1+1) fun _=>dO H 122 3 40 y m [c,d,false] fun a b c=>be_.l17 k x n i s j t r a b (ac_ .i64 (h+1)) c Q)) (eG a9_ [nL x n 5] H 5 a6_ [s,j,t,r,.sl y m 3] 5 Q (nN 0)):=zz
theorem rF_:ao_ prog 47 (be_):=sO (eZ iu_ func74 (eZ eG_ func46 (eZ dc_ func75 (eZ h9_ func77 (eZ pa_ func86 eN))))) nO func47
def aH_.cx:Cx:=⟨tys,[],[(2,[0,3]),(6,[0,3,4,5])],[],[(44,bd_)],au_,[.tmp 2]⟩
def aH_:=fF aH_.cx f48
def aH_.l2 k a b:=aW_ (aH_.cx) f48 2 k (gP a::.bad::.bad::gI b::B 35 [])
def aH_.l6 k a b c d:=aW_ (aH_.cx) f48 6 k (gP a::.bad::.bad::gI b::gB c::gI d::B 33 [])
theorem mu_:aw_ aH_.cx f48 (k+1) [x] H Q=aH_.l2 k x 1 H Q:=zz
theorem aH_.l2_eq:aH_.l2 (k+1) x i H Q=bD i 255 (aI bd_ [x,i] H (fun a b=>aH_.l6 k x i (leI 0 b) 0 a Q)) (Q (nN 0) H):=zz
theorem aH_.l6_eq:aH_.l6 (k+1) x i b j H Q=da x H 4 j (b2_ b (aH_.l6 k x i true (ac_ .i64 (j+1)) H Q) (dj x H 4 0 j j (fun a b=>au H a (b+tN j*4+0) fun a=>aH_.l6 k x i (eqI a i) (ac_ .i64 (j+1)) H Q))) (aE b (Q i H) (aH_.l2 k x (ac_ .i64 (i+1)) H Q)):=zz
theorem mK_:ao_ prog 48 (aH_):=sO (eZ gI_ func44 eN) nO func48
def aR_.cx:Cx:=⟨tys,[],[(2,[0,1,5])],[],[],au_,[.tmp 4]⟩
def aR_:=fF aR_.cx f40
def aR_.l2 k a b c:=aW_ (aR_.cx) f40 2 k (gP a::gS b::B 3 (gI c::B 20 []))
theorem m8_:aw_ aR_.cx f40 (k+1) [x,s] H Q=aR_.l2 k x s 0 H Q:=zz
theorem aR_.l2_eq:aR_.l2 (k+1) x s i H Q=aY x H 5 fun _ a=>bg i a (cL x H 5 0 i i (fun a b=>aj H a (b+tN i*5+0) fun a=>dz a s (Q i H) (aR_.l2 k x s (ac_ .i64 (i+1)) H Q))) (dY Q .i64 (-1) H):=zz
theorem d2_:ao_ prog 40 (aR_):=sO eN nO func40
def dF_.cx:Cx:=⟨tys,[],[],[],[],au_,[.tmp 2]⟩
def dF_:=fF dF_.cx f78
theorem oC_:aw_ dF_.cx f78 (k+1) [x] H Q=aY x H 5 fun _ a=>bq x H 4 fun _ b=>bC x H 3 fun _ c=>Q (ac_ .i64 (ac_ .i64 (nI a+nI b)+nI c)) H:=zz
theorem ou_:ao_ prog 78 (dF_):=sO eN nO func78
def bU_.cx:Cx:=⟨tys,[],[],[],[(78,dF_),(29,bv_),(30,aq_)],au_,[.cell 2 24]⟩
def bU_:=fF bU_.cx f41
theorem oy_:aw_ bU_.cx f41 (k+1) [x] H Q=aI dF_ [x] H fun a b=>ay 60 b (cl bv_ [x] a (fun _ a=>bG aq_ [x] a 5 fun a b c=>dV Q [.sl b c 5] a)) (bG aq_ [x] a 5 (fun a b c=>dV Q [.sl b c 5] a)):=zz
theorem fj_:ao_ prog 41 (bU_):=sO (eZ ou_ func78 (eZ im_ func29 (eZ iY_ func30 eN))) nO func41
def a0_.cx:Cx:=⟨tys,[],[(12,[1,2,3,8,10,14,15,16,17])],[(18,[1,2,3,8,10,14])],[(22,bt_),(38,as_),(47,be_),(48,aH_),(40,aR_),(49,aQ_),(41,bU_)],au_,[.cell 8 24,.tmp 9]⟩
def a0_:=fF a0_.cx f23
def a0_.l12 k a b c d e f g h i j:=aW_ (a0_.cx) f23 12 k (.bad::gS a::gS b::gI c::B 4 (.bx [.sl d e 5]::.bad::gP f::B 3 (gI g::gI h::gI i::gI j::B 106 [])))
def a0_.l18 k a b c d e f g:=aW_ (a0_.cx) f23 18 k (.bad::gS a::gS b::gI c::B 4 (.bx [.sl d e 5]::.bad::gP f::B 3 (gI g::B 109 [])))
theorem rL_:aw_ a0_.cx f23 (k+1) [.agg [.sl x n 5],s,t,i] H Q=eQ bt_ [.agg [.sl x n 5]] H Q [.a [.sl none 0 5],nN 2000] fun a b=>aG as_ [b] a 5 fun a c d=>bF be_ [nL c d 5,s,t,i] a 5 fun a c _ _=>en c 0 Q (.a [.sl none 0 5]) a (aI aH_ [b] a (fun a c=>ew t [] (dD b a 5 (fun d e f g=>aI aR_ [b,t] a fun a h=>bT a d (e+0) 5 (nL f g 5) (cI (leI 0 h&&ltI h (nI g)) f a (tN h*5) (fun d=>bq b a 4 fun _ e=>a0_.l12 k s t i none 0 b c d (nI e) 0 a Q)))) (a0_.l18 k s t i none 0 b c a Q))):=zz
theorem a0_.l12_eq:a0_.l12 (k+1) s t i x n y j h g I H Q=ay I g (e8 y H 4 0 I I H (tN I*4) H (tN I*4) H (tN I*4) H (tN I*4) (fun a b c _=>bV a h (bq y H 4 (fun a d=>eO H 88 4 40 a d [j,b,c,false] y fun a=>pS y fun b d=>ae a b (d+2) 3 fun e f=>aI aQ_ [y,c] a fun a c=>ae a b (d+2) 3 fun b d=>eqv (nL e f 3) (nL b d 3) (cI (leI 0 c&&ltI c (nI f)) e a (tN c*3) (fun b=>aD (leI 0 c&&ltI c (nI f)) e fun d e=>wr a d (e+tN c*3+1+0) (ac_ .i64 (b+1)) fun a=>a0_.l12 k s t i x n y j h g (ac_ .i64 (I+1)) a Q)))) (a0_.l12 k s t i x n y j h g (ac_ .i64 (I+1)) H Q))) (a0_.l18 k s t i x n y j H Q):=zz
theorem a0_.l18_eq:a0_.l18 (k+1) s t i x n y j H Q=aY y H 5 fun a b=>dO H 81 5 64 a b [s,j,i,t,mkS []] fun a b c=>pS y fun d e=>wr c d (e+0) (.sl a b 5) fun a=>bH bU_ [y] a 5 Q (nN 0):=zz
theorem lx_:ao_ prog 23 (a0_):=sO (eZ fB_ func22 (eZ da_ func38 (eZ rF_ func47 (eZ mK_ func48 (eZ d2_ func40 (eZ dZ_ func49 (eZ fj_ func41 eN))))))) nO func23
def es_.cx:Cx:=⟨tys,[],[],[],[(74,b1_)],au_,[.tmp 4,.tmp 5]⟩
def es_:=fF es_.cx f87
theorem tJ_:aw_ es_.cx f87 (k+1) [nL x n 5,s] H Q=aI b1_ [nL x n 5,s] H fun a b=>d5 b 0 Q [nN 0,nN 1903] a (cA (leI 0 b&&ltI b (nI n)) x a (tN b*5) (fun c=>cn c 0 Q [nN 0,nN 1905] a (aC Q [b,nN 0] a))):=zz
theorem mn_:ao_ prog 87 (es_):=sO (eZ iu_ func74 eN) nO func87
def cf_.cx:Cx:=⟨tys,[],[(2,[0,1,5])],[],[],au_,[.tmp 4]⟩
def cf_:=fF cf_.cx f88
def cf_.l2 k a b c d:=aW_ (cf_.cx) f88 2 k (nL a b 3::gS c::B 3 (gI d::B 14 []))
theorem tK_:aw_ cf_.cx f88 (k+1) [nL x n 3,s] H Q=cf_.l2 k x n s 0 H Q:=zz
theorem cf_.l2_eq:cf_.l2 (k+1) x n s i H Q=bg i n (bo (leI 0 i&&ltI i (nI n)) x H (tN i*3) (fun a=>dz a s (Q i H) (cf_.l2 k x n s (ac_ .i64 (i+1)) H Q))) (dY Q .i64 (-1) H):=zz
theorem ul_:ao_ prog 88 (cf_):=sO eN nO func88
def aZ_.cx:Cx:=⟨tys,[],[(22,[2,10,13,14,15,16])],[(26,[2,10,13,14,15,16]),(29,[10,13,15])],[(46,aU_),(75,bg_),(87,es_),(88,cf_),(89,cl_),(77,a9_)],au_,[.tmp 8,.tmp 9]⟩
def aZ_:=fF aZ_.cx f50
def aZ_.l22 k a b c d e f g h i j:=aW_ (aZ_.cx) f50 22 k (.bad::.bad::gS a::B 7 (gI b::.bad::.bad::nL c d 5::.bx [.str e,.str f,.bool g]::nL h i 3::gI j::B 119 []))
def aZ_.l26 k a b c d e f g h i j:=aW_ (aZ_.cx) f50 26 k (.bad::.bad::gS a::B 7 (gI b::.bad::.bad::nL c d 5::.bx [.str e,.str f,.bool g]::nL h i 3::gI j::B 119 []))
def aZ_.l29 k a b c d e:=aW_ (aZ_.cx) f50 29 k (B 10 (gI a::.bad::.bad::nL b c 5::.bad::nL d e 3::B 120 []))
theorem uE_:aw_ aZ_.cx f50 (k+1) [nL x n 5,s,t,r] H Q=dA aU_ [nL x n 5] H Q [.s (.sl none 0 5),nN 1900] bg_ [s] Q [.s (.sl none 0 5),nN 1901] fun a=>bZ es_ [nL x n 5,s] a fun a b c=>en b 0 Q (.s (.sl none 0 5)) a (cJ (leI 0 c&&ltI c (nI n)) x a (tN c*5) 3 (fun b d=>aI cf_ [nL b d 3,t] a fun a b=>aR cl_ [t] a Q [.s (.sl none 0 5),nN 1907] fun a=>d5 6 (sz r) Q [.s (.sl none 0 5),nN 1909] a (ay b 0 (cJ (leI 0 c&&ltI c (nI n)) x a (tN c*5) 3 (fun _ d=>d6 4 (nI d) Q [.s (.sl none 0 5),nN 1910] a (aG a9_ [nL x n 5] a 5 (fun a d e=>bD 0 b (dy (leI 0 c&&ltI c (nI e)) d a (tN c*5) 3 0 b b (fun c f=>aJ a c (f+tN b*3) t c (f+tN b*3+1) r fun a=>bI a c (f+tN b*3+1+1) true Q [.s (.sl d e 5),nN 0])) (aZ_.l22 k t c d e t r true none 0 0 a Q))))) (aG a9_ [nL x n 5] a 5 (fun a d e=>bD 0 b (dy (leI 0 c&&ltI c (nI e)) d a (tN c*5) 3 0 b b (fun c f=>aJ a c (f+tN b*3) t c (f+tN b*3+1) r fun a=>bI a c (f+tN b*3+1+1) true Q [.s (.sl d e 5),nN 0])) (aZ_.l22 k t c d e t r true none 0 0 a Q)))))):=zz
theorem aZ_.l22_eq:aZ_.l22 (k+1) s i x n t r b y m j H Q=cJ (leI 0 i&&ltI i (nI n)) x H (tN i*5) 3 fun _ a=>bg j a (bV (nI m) j (dy (leI 0 i&&ltI i (nI n)) x H (tN i*5) 3 0 j j (fun a c=>aj H a (c+tN j*3+0) fun a=>aE (dN_ a s||ey_ a s) (dO H 122 3 40 y m [t,r,b] (fun a c d=>aZ_.l26 k s i x n t r b a c j d Q)) (aZ_.l26 k s i x n t r b y m j H Q))) (aZ_.l26 k s i x n t r b y m j H Q)) (cJ (leI 0 i&&ltI i (nI n)) x H (tN i*5) 3 (fun _ a=>bV (nI m) (nI a) (dO H 122 3 40 y m [t,r,b] (fun a b c=>aZ_.l29 k i x n a b c Q)) (aZ_.l29 k i x n y m H Q))):=zz
theorem aZ_.l26_eq:aZ_.l26 (k+1) s i x n t r b y m j H Q=dy (leI 0 i&&ltI i (nI n)) x H (tN i*5) 3 0 j j fun a c=>aj H a (c+tN j*3) fun d=>aj H a (c+tN j*3+1) fun e=>aF H a (c+tN j*3+1+1) fun a=>dO H 122 3 40 y m [d,e,a] fun a c d=>aZ_.l22 k s i x n t r b a c (ac_ .i64 (j+1)) d Q:=zz
theorem aZ_.l29_eq:aZ_.l29 (k+1) i x n y m H Q=aD (leI 0 i&&ltI i (nI n)) x fun a b=>bI H a (b+tN i*5+4) (.sl y m 3) Q [.s (.sl x n 5),nN 0]:=zz
theorem vH_:ao_ prog 50 (aZ_):=sO (eZ eG_ func46 (eZ dc_ func75 (eZ mn_ func87 (eZ ul_ func88 (eZ gA_ func89 (eZ h9_ func77 eN)))))) nO func50
def a8_.cx:Cx:=⟨tys,[],[(3,[0,2,7,8])],[],[(40,aR_)],au_,[.tmp 6]⟩
def a8_:=fF a8_.cx f51
def a8_.l3 k a b c d:=aW_ (a8_.cx) f51 3 k (gP a::.bad::gS b::B 4 (gI c::gI d::B 43 []))
theorem mB_:aw_ a8_.cx f51 (k+1) [x,s,t] H Q=dD x H 5 fun a b c d=>aI aR_ [x,s] H fun e f=>bT e a (b+0) 5 (nL c d 5) (cI (leI 0 f&&ltI f (nI d)) c e (tN f*5) (fun a=>a8_.l3 k x t a 0 e Q)):=zz
theorem a8_.l3_eq:a8_.l3 (k+1) x s i j H Q=da x H 4 j (dj x H 4 0 j j (fun a b=>au H a (b+tN j*4+0) fun a=>bV a i (dj x H 4 0 j j (fun a b=>aj H a (b+tN j*4+1) fun a=>dz a s (Q j H) (a8_.l3 k x s i (ac_ .i64 (j+1)) H Q))) (a8_.l3 k x s i (ac_ .i64 (j+1)) H Q))) (dY Q .i64 (-1) H):=zz
theorem mG_:ao_ prog 51 (a8_):=sO (eZ d2_ func40 eN) nO func51
def a1_.cx:Cx:=⟨tys,[],[(2,[0,3])],[],[(49,aQ_)],au_,[.tmp 2]⟩
def a1_:=fF a1_.cx f53
def a1_.l2 k a b:=aW_ (a1_.cx) f53 2 k (gP a::.bad::.bad::gI b::B 9 [])
theorem kI_:aw_ a1_.cx f53 (k+1) [x] H Q=a1_.l2 k x 1 H Q:=zz
theorem a1_.l2_eq:a1_.l2 (k+1) x i H Q=bD i 255 (aI aQ_ [x,i] H (fun a b=>ay b 0 (Q i a) (a1_.l2 k x (ac_ .i64 (i+1)) a Q))) (Q (nN 0) H):=zz
theorem kG_:ao_ prog 53 (a1_):=sO (eZ dZ_ func49 eN) nO func53
def b4_.cx:Cx:=⟨tys,[],[],[(10,[1,2,3,8,10])],[(22,bt_),(38,as_),(50,aZ_),(51,a8_),(52,aG_),(53,a1_),(40,aR_),(41,bU_)],au_,[.cell 8 24,.tmp 9]⟩
def b4_:=fF b4_.cx f24
def b4_.l10 k a b c d e f:=aW_ (b4_.cx) f24 10 k (.bad::gS a::gS b::gS c::B 4 (.bx [.sl d e 5]::.bad::gP f::B 75 []))
theorem wy_:aw_ b4_.cx f24 (k+1) [.agg [.sl x n 5],s,t,r] H Q=eQ bt_ [.agg [.sl x n 5]] H Q [.a [.sl none 0 5],nN 2000] fun a b=>aG as_ [b] a 5 fun a c d=>bF aZ_ [nL c d 5,s,t,r] a 5 fun a c _ _=>en c 0 Q (.a [.sl none 0 5]) a (aI a8_ [b,s,t] a (fun a c=>bD 0 c (cl aG_ [b,c] a (fun _ a=>b4_.l10 k s t r none 0 b a Q)) (b4_.l10 k s t r none 0 b a Q))):=zz
theorem b4_.l10_eq:b4_.l10 (k+1) s t r x n y H Q=aI a1_ [y] H fun a b=>bC y a 3 fun c d=>dO a 92 3 32 c d [b,nN 1,r] fun a c d=>eu y d (.sl a c 3) fun a=>pS y fun c d=>ae a c (d+1) 4 fun e f=>dD y a 5 fun g h i j=>aI aR_ [y,s] a fun a l=>bT a g (h+0) 5 (nL i j 5) (ae a c (d+1) 4 (fun c d=>eqv (nL e f 4) (nL c d 4) (cI (leI 0 l&&ltI l (nI j)) i a (tN l*5) (fun c=>eO a 88 4 40 e f [c,t,b,true] y fun a=>bH bU_ [y] a 5 Q (nN 0))))):=zz
theorem nZ_:ao_ prog 24 (b4_):=sO (eZ fB_ func22 (eZ da_ func38 (eZ vH_ func50 (eZ mG_ func51 (eZ iW_ func52 (eZ kG_ func53 (eZ d2_ func40 (eZ fj_ func41 eN)))))))) nO func24
def bK_.cx:Cx:=⟨tys,[],[(3,[0,1,5,6])],[],[],au_,[.tmp 4]⟩
def bK_:=fF bK_.cx f76
def bK_.l3 k a b c d e f:=aW_ (bK_.cx) f76 3 k (nL a b 5::gI c::B 3 (nL d e 5::gI f::B 17 []))
theorem sb_:aw_ bK_.cx f76 (k+1) [nL x n 5,i] H Q=bK_.l3 k x n i none 0 0 H Q:=zz
theorem bK_.l3_eq:bK_.l3 (k+1) x n i y m j H Q=bg j n (cY j i (cS (leI 0 j&&ltI j (nI n)) x H (tN j*5) H H H H 3 (fun a b c d e f=>dO H 45 5 80 y m [a,b,c,d,.sl e f 3] fun a b c=>bK_.l3 k x n i a b (ac_ .i64 (j+1)) c Q)) (bK_.l3 k x n i y m (ac_ .i64 (j+1)) H Q)) (eK Q y m 5 H):=zz
theorem ll_:ao_ prog 76 (bK_):=sO eN nO func76
def fQ_.cx:Cx:=⟨tys,[],[],[],[(46,aU_),(75,bg_),(87,es_),(74,b1_),(77,a9_),(76,bK_),(86,a6_)],au_,[.tmp 6,.tmp 7]⟩
def fQ_:=fF fQ_.cx f114
theorem t6_:aw_ fQ_.cx f114 (k+1) [nL x n 5,s,t] H Q=dA aU_ [nL x n 5] H Q [.s (.sl none 0 5),nN 1900] bg_ [s] Q [.s (.sl none 0 5),nN 1901] fun a=>aR bg_ [t] a Q [.s (.sl none 0 5),nN 1901] fun a=>bZ es_ [nL x n 5,s] a fun a b c=>en b 0 Q (.s (.sl none 0 5)) a (aI b1_ [nL x n 5,t] a (fun a b=>d6 0 b Q [.s (.sl none 0 5),nN 1902] a (aG a9_ [nL x n 5] a 5 (fun a b d=>bn (leI 0 c&&ltI c (nI d)) b a (tN c*5) fun e f _=>au a e (f+tN c*5+1) fun _=>aj a e (f+tN c*5+1+1) fun g=>aj a e (f+tN c*5+1+1+1) fun h=>ae a e (f+tN c*5+1+1+1+1) 3 fun e f=>eG bK_ [nL b d 5,c] a 5 a6_ [t,nN 2,g,h,.sl e f 3] 5 Q (nN 0))))):=zz
theorem tY_:ao_ prog 114 (fQ_):=sO (eZ eG_ func46 (eZ dc_ func75 (eZ mn_ func87 (eZ iu_ func74 (eZ h9_ func77 (eZ ll_ func76 (eZ pa_ func86 eN))))))) nO func114
def eZ_.cx:Cx:=⟨tys,[],[],[],[(22,bt_),(38,as_),(114,fQ_),(40,aR_),(41,bU_)],au_,[.cell 6 24,.tmp 7]⟩
def eZ_:=fF eZ_.cx f72
theorem ue_:aw_ eZ_.cx f72 (k+1) [.agg [.sl x n 5],s,t] H Q=eQ bt_ [.agg [.sl x n 5]] H Q [.a [.sl none 0 5],nN 2000] fun a b=>aG as_ [b] a 5 fun a c d=>bF fQ_ [nL c d 5,s,t] a 5 fun a c _ _=>en c 0 Q (.a [.sl none 0 5]) a (aI aR_ [b,s] a (fun a c=>cL b a 5 0 c c fun d e=>wr a d (e+tN c*5+0) t fun a=>cL b a 5 0 c c fun d e=>wr a d (e+tN c*5+1+1) (nN 2) fun a=>bH bU_ [b] a 5 Q (nN 0))):=zz
theorem tL_:ao_ prog 72 (eZ_):=sO (eZ fB_ func22 (eZ da_ func38 (eZ tY_ func114 (eZ d2_ func40 (eZ fj_ func41 eN))))) nO func72
def gB_.cx:Cx:=⟨tys,[],[],[],[(20,fv_),(23,a0_),(24,b4_),(72,eZ_)],au_,[.cell 0 24]⟩
def gB_:=fF gB_.cx f35
theorem t0_:aw_ gB_.cx f35 (k+1) [] H Q=bG fv_ [] H 5 fun a b c=>ep a0_ [.agg [.sl b c 5],mkS [119],mkS [],nN 0] a 5 b4_ (mkS [119]) (mkS [97]) (mkS [111,110,101]) 5 fun a b c=>ep eZ_ [.agg [.sl b c 5],mkS [119],mkS [98,97,115,101]] a 5 a0_ (mkS [119,111,114,107]) (mkS [98,97,115,101]) (nN 0) 5 fun a b c=>dv b4_ [.agg [.sl b c 5],mkS [119,111,114,107],mkS [98],mkS [116,119,111]] a 5 fun a b c=>dV Q [.sl b c 5] a:=zz
theorem um_:ao_ prog 35 (gB_):=sO (eZ kd_ func20 (eZ lx_ func23 (eZ nZ_ func24 (eZ tL_ func72 eN)))) nO func35
def ce_.cx:Cx:=⟨tys,[],[(9,[0,1,6,7])],[],[(74,b1_),(46,aU_),(75,bg_),(77,a9_),(76,bK_)],au_,[.tmp 4,.tmp 5]⟩
def ce_:=fF ce_.cx f39
def ce_.l9 k a b c d e:=aW_ (ce_.cx) f39 9 k (nL a b 5::gS c::B 4 (gI d::gI e::B 31 []))
theorem t7_:aw_ ce_.cx f39 (k+1) [nL x n 5,s] H Q=aI b1_ [nL x n 5,s] H fun a b=>dA aU_ [nL x n 5] a Q [.s (.sl none 0 5),nN 1900] bg_ [s] Q [.s (.sl none 0 5),nN 1901] fun a=>d5 b 0 Q [.s (.sl none 0 5),nN 1903] a (ce_.l9 k x n s b 0 a Q):=zz
theorem ce_.l9_eq:ce_.l9 (k+1) x n s i j H Q=bg j n (aD (leI 0 j&&ltI j (nI n)) x (fun a b=>aj H a (b+tN j*5+2) fun a=>dz a s (aC Q [.s (.sl none 0 5),nN 1906] H) (ce_.l9 k x n s i (ac_ .i64 (j+1)) H Q))) (bB a9_ [nL x n 5] H 5 bK_ i 5 Q (nN 0)):=zz
theorem un_:ao_ prog 39 (ce_):=sO (eZ iu_ func74 (eZ eG_ func46 (eZ dc_ func75 (eZ h9_ func77 (eZ ll_ func76 eN))))) nO func39
def bL_.cx:Cx:=⟨tys,[],[(10,[4,6,10,11,12])],[],[(22,bt_),(38,as_),(39,ce_),(40,aR_),(41,bU_)],au_,[.cell 4 24,.tmp 5]⟩
def bL_:=fF bL_.cx f19
def bL_.l10 k a b c d e f g:=aW_ (bL_.cx) f19 10 k (B 4 (.bx [.sl a b 5]::.bad::gP c::B 3 (gI d::nL e f 5::gI g::B 50 [])))
theorem ud_:aw_ bL_.cx f19 (k+1) [.agg [.sl x n 5],s] H Q=eQ bt_ [.agg [.sl x n 5]] H Q [.a [.sl none 0 5],nN 2000] fun a b=>aG as_ [b] a 5 fun a c d=>bF ce_ [nL c d 5,s] a 5 fun a c _ _=>en c 0 Q (.a [.sl none 0 5]) a (aI aR_ [b,s] a (fun a c=>bL_.l10 k none 0 b c none 0 0 a Q)):=zz
theorem bL_.l10_eq:bL_.l10 (k+1) x n y i z m j H Q=aY y H 5 fun _ a=>bg j a (cY j i (cL y H 5 0 j j (fun a b=>aj H a (b+tN j*5) fun c=>au H a (b+tN j*5+1) fun d=>eD H a (b+tN j*5+1+1) H a (b+tN j*5+1+1+1) fun e f=>aj H a (b+tN j*5+1+1+1+1) fun a=>dO H 81 5 64 z m [c,d,e,f,a] fun a b c=>bL_.l10 k x n y i a b (ac_ .i64 (j+1)) c Q)) (bL_.l10 k x n y i z m (ac_ .i64 (j+1)) H Q)) (pS y (fun a b=>wr H a (b+0) (.sl z m 5) fun a=>bH bU_ [y] a 5 Q (nN 0))):=zz
theorem iK_:ao_ prog 19 (bL_):=sO (eZ fB_ func22 (eZ da_ func38 (eZ un_ func39 (eZ d2_ func40 (eZ fj_ func41 eN))))) nO func19
def cd_.cx E:=(⟨tys,[],[],[],[(35,gB_),(19,bL_),(9,bY_),(12,(cn_ E)),(11,dd_),(13,ev_)],E,[.tmp 0]⟩:Cx)
def cd_ E:=fF (cd_.cx E) f15
theorem u5_:aw_ (cd_.cx E) f15 (k+1) [] H Q=bG gB_ [] H 5 fun a b c=>dv bL_ [.agg [.sl b c 5],mkS [119,111,114,107]] a 5 fun a d e=>ce bY_ [.agg [.sl d e 5]] a 5 fun a f g h=>aV bY_ [.agg [.sl none 0 5]] a fun a i j=>aB j 5 fun j _ _=>uN j (bf i (fun i=>bY (cn_ E) [.agg [.sl b c 5]] a Q fun a=>ak (cn_ E) [.agg [.sl d e 5]] a fun a b=>aE b (aI dd_ [h] a (fun a b=>cy b 0 Q a (bY ev_ [.agg [.sl f g 5]] a Q (fun a=>aI dd_ [i] a fun a b=>cy b 2000 Q a (eH (cn_ E) [.agg [.sl none 0 5]] a Q))))) (aO Q a))):=zz
theorem gb_(E)(h:eE E):ao_ prog 15 (cd_ E):=sO (eZ um_ func35 (eZ iK_ func19 (eZ fr_ func9 (eZ (hD_ E h) func12 (eZ hc_ func11 (eZ nJ_ func13 eN)))))) h func15
def bP_.cx:Cx:=⟨tys,[],[(4,[0,1,5])],[],[],au_,[.tmp 4]⟩
def bP_:=fF bP_.cx f17
def bP_.l4 k a b c d e:=aW_ (bP_.cx) f17 4 k (nL a b 2::nL c d 2::B 3 (gI e::B 20 []))
theorem q1_:aw_ bP_.cx f17 (k+1) [nL x n 2,nL y m 2] H Q=dt (nI n) (nI m) Q H (bP_.l4 k x n y m 0 H Q):=zz
theorem bP_.l4_eq:bP_.l4 (k+1) x n y m i H Q=bg i n (dg (leI 0 i&&ltI i (nI n)) x H (tN i*2) H (tN i*2) (fun a b=>dg (leI 0 i&&ltI i (nI m)) y H (tN i*2) H (tN i*2) fun c d=>bz (ey_ a c&&(ey_ b d&&true)) Q H (bP_.l4 k x n y m (ac_ .i64 (i+1)) H Q))) (Q true H):=zz
theorem q7_:ao_ prog 17 (bP_):=sO eN nO func17
def hz_.cx E:=(⟨tys,[],[],[],[(8,b0_),(9,bY_),(10,gd_),(11,dd_),(12,(cn_ E)),(13,ev_),(14,bb_),(15,(cd_ E)),(16,eg_),(17,bP_)],E,[.tmp 2]⟩:Cx)
def hz_ E:=fF (hz_.cx E) f3
theorem tZ_:aw_ (hz_.cx E) f3 (k+1) [.agg [.sl x n 5]] H Q=bG b0_ [.agg [.sl x n 5]] H 5 fun a b c=>ce bY_ [.agg [.sl b c 5]] a 5 fun a d e f=>ce gd_ [.agg [.sl x n 5]] a 5 fun a g h i=>aI dd_ [f] a fun a f=>dt f i Q a (ak (cn_ E) [.agg [.sl b c 5]] a (fun a f=>ak ev_ [.agg [.sl x n 5]] a fun a j=>bz (eqB f j) Q a (bA bb_ [.agg [.sl b c 5],.agg [.sl x n 5]] a Q (fun a=>cY i 0 (d7 bb_ [.agg [.sl d e 5],.agg [.sl none 0 5]] a Q (cd_ E) [] Q) (cZ eg_ [.agg [.sl d e 5]] a 2 (fun a b c d=>bF eg_ [.agg [.sl g h 5]] a 2 fun a e f g=>aU e (cy d 0 Q a (d7 bP_ [nL b c 2,nL f g 2] a Q (cd_ E) [] Q)))))))):=zz
theorem tU_(E)(h:eE E):ao_ prog 3 (hz_ E):=sO (eZ sW_ func8 (eZ fr_ func9 (eZ vl_ func10 (eZ hc_ func11 (eZ (hD_ E h) func12 (eZ nJ_ func13 (eZ fp_ func14 (eZ (gb_ E h) func15 (eZ m2_ func16 (eZ q7_ func17 eN)))))))))) h func3
def b8_.cx:Cx:=⟨tys,[],[],[],[(22,bt_),(38,as_)],au_,[.tmp 2,.tmp 3]⟩
def b8_:=fF b8_.cx f18
theorem wa_:aw_ b8_.cx f18 (k+1) [.agg [.sl x n 5]] H Q=eQ bt_ [.agg [.sl x n 5]] H Q [.s (.sl none 0 5),nN 2000] fun a b=>bc as_ [b] a 5 Q (nN 0):=zz
theorem hi_:ao_ prog 18 (b8_):=sO (eZ fB_ func22 (eZ da_ func38 eN)) nO func18
def aO_.cx E:=(⟨tys,[],[(6,[1,3]),(9,[1,3,5,6])],[],[(15,(cd_ E)),(18,b8_),(12,(cn_ E)),(19,bL_),(9,bY_),(11,dd_),(20,fv_),(14,bb_)],E,[.tmp 2]⟩:Cx)
def aO_ E:=fF (aO_.cx E) f4
def aO_.l6 E k a b c d:=aW_ (aO_.cx E) f4 6 k (.bad::.bx [.sl a b 5]::.bad::nL c d 5::B 65 [])
def aO_.l9 E k a b c d e f:=aW_ (aO_.cx E) f4 9 k (.bad::.bx [.sl a b 5]::.bad::nL c d 5::.bad::gB e::gI f::B 62 [])
theorem p0_:aw_ (aO_.cx E) f4 (k+1) [.agg [.sl x n 5]] H Q=bA (cd_ E) [] H Q fun a=>cZ b8_ [.agg [.sl x n 5]] a 5 fun a b c d=>cY d 0 (eH (cn_ E) [.agg [.sl x n 5]] a Q) (aO_.l6 E k x n b c a Q):=zz
theorem aO_.l6_eq:aO_.l6 E (k+1) x n y m H Q=bg 0 m (aO_.l9 E k x n y m false 0 H Q) (ce bY_ [.agg [.sl x n 5]] H 5 (fun a b c d=>aI dd_ [d] a fun a d=>cy d 0 Q a (bG fv_ [] a 5 (fun a d e=>bv bb_ [.agg [.sl b c 5],.agg [.sl d e 5]] a Q)))):=zz
theorem aO_.l9_eq:aO_.l9 E (k+1) x n y m b i H Q=bg i m (aE b (bo (leI 0 i&&ltI i (nI m)) y H (tN i*5) (fun a=>ce bL_ [.agg [.sl x n 5],a] H 5 fun a c d e=>bV e 0 (aO_.l9 E k c d y m true (ac_ .i64 (i+1)) a Q) (aO_.l9 E k x n y m b (ac_ .i64 (i+1)) a Q))) (bz b Q H (bF b8_ [.agg [.sl x n 5]] H 5 (fun a b c d=>aU b (aO_.l6 E k x n c d a Q))))) (bz b Q H (bF b8_ [.agg [.sl x n 5]] H 5 (fun a b c d=>aU b (aO_.l6 E k x n c d a Q)))):=zz
theorem pq_(E)(h:eE E):ao_ prog 4 (aO_ E):=sO (eZ (gb_ E h) func15 (eZ hi_ func18 (eZ (hD_ E h) func12 (eZ iK_ func19 (eZ fr_ func9 (eZ hc_ func11 (eZ kd_ func20 (eZ fp_ func14 eN)))))))) h func4
def bR_.cx:Cx:=⟨tys,[],[(4,[0,1,5])],[],[],au_,[.tmp 4]⟩
def bR_:=fF bR_.cx f79
def bR_.l4 k a b c d e:=aW_ (bR_.cx) f79 4 k (nL a b 3::nL c d 3::B 3 (gI e::B 20 []))
theorem qI_:aw_ bR_.cx f79 (k+1) [nL x n 3,nL y m 3] H Q=dt (nI n) (nI m) Q H (bR_.l4 k x n y m 0 H Q):=zz
theorem bR_.l4_eq:bR_.l4 (k+1) x n y m i H Q=bg i n (dp (leI 0 i&&ltI i (nI n)) x H (tN i*3) H H (fun a b c=>dp (leI 0 i&&ltI i (nI m)) y H (tN i*3) H H fun d e f=>bz (ey_ a d&&(ey_ b e&&(eqB c f&&true))) Q H (bR_.l4 k x n y m (ac_ .i64 (i+1)) H Q))) (Q true H):=zz
theorem q6_:ao_ prog 79 (bR_):=sO eN nO func79
def fX_.cx:Cx:=⟨tys,[],[],[],[(79,bR_)],au_,[.tmp 4]⟩
def fX_:=fF fX_.cx f42
theorem r4_:aw_ fX_.cx f42 (k+1) [.agg [s,i,t,r,.sl x n 3],.agg [S,j,R,e,.sl y m 3]] H Q=aW (ey_ s S) Q H (cy i j Q H (aW (ey_ t R) Q H (aW (ey_ r e) Q H (bv bR_ [nL x n 3,nL y m 3] H Q)))):=zz
theorem r1_:ao_ prog 42 (fX_):=sO (eZ q6_ func79 eN) nO func42
def bz_.cx:Cx:=⟨tys,[],[(4,[0,1,5])],[],[(42,fX_)],au_,[.tmp 4]⟩
def bz_:=fF bz_.cx f21
def bz_.l4 k a b c d e:=aW_ (bz_.cx) f21 4 k (nL a b 5::nL c d 5::B 3 (gI e::B 21 []))
theorem qt_:aw_ bz_.cx f21 (k+1) [nL x n 5,nL y m 5] H Q=dt (nI n) (nI m) Q H (bz_.l4 k x n y m 0 H Q):=zz
theorem bz_.l4_eq:bz_.l4 (k+1) x n y m i H Q=bg i n (cS (leI 0 i&&ltI i (nI n)) x H (tN i*5) H H H H 3 (fun a b c d e f=>cS (leI 0 i&&ltI i (nI m)) y H (tN i*5) H H H H 3 fun g h j l o p=>bA fX_ [.agg [a,b,c,d,.sl e f 3],.agg [g,h,j,l,.sl o p 3]] H Q fun a=>bz_.l4 k x n y m (ac_ .i64 (i+1)) a Q)) (Q true H):=zz
theorem kl_:ao_ prog 21 (bz_):=sO (eZ r1_ func42 eN) nO func21
def fu_.cx E:=(⟨tys,[],[],[],[(15,(cd_ E)),(9,bY_),(11,dd_),(14,bb_),(18,b8_),(12,(cn_ E)),(21,bz_)],E,[.tmp 2]⟩:Cx)
def fu_ E:=fF (fu_.cx E) f5
theorem oG_:aw_ (fu_.cx E) f5 (k+1) [.agg [.sl x n 5]] H Q=bA (cd_ E) [] H Q fun a=>ce bY_ [.agg [.sl x n 5]] a 5 fun a b c d=>aI dd_ [d] a fun a d=>cY d 0 (bv bb_ [.agg [.sl b c 5],.agg [.sl none 0 5]] a Q) (ce bY_ [.agg [.sl b c 5]] a 5 (fun a d e f=>cZ b8_ [.agg [.sl x n 5]] a 5 fun a g h i=>cZ b8_ [.agg [.sl b c 5]] a 5 fun a j l m=>cZ b8_ [.agg [.sl d e 5]] a 5 fun a n o p=>aI dd_ [f] a fun a f=>cy f 0 Q a (bY (cn_ E) [.agg [.sl b c 5]] a Q (fun a=>bY (cn_ E) [.agg [.sl d e 5]] a Q fun a=>cy i 0 Q a (cy m 0 Q a (cy p 0 Q a (d7 bz_ [nL g h 5,nL j l 5] a Q bz_ [nL j l 5,nL n o 5] Q))))))):=zz
theorem oE_(E)(h:eE E):ao_ prog 5 (fu_ E):=sO (eZ (gb_ E h) func15 (eZ fr_ func9 (eZ hc_ func11 (eZ fp_ func14 (eZ hi_ func18 (eZ (hD_ E h) func12 (eZ kl_ func21 eN))))))) h func5
def b3_.cx E:=(⟨tys,[],[(11,[5,7,8,9,10,11,12])],[],[(15,(cd_ E)),(9,bY_),(11,dd_),(14,bb_),(22,bt_),(18,b8_)],E,[.tmp 2]⟩:Cx)
def b3_ E:=fF (b3_.cx E) f6
def b3_.l11 E k a b c d e f g h:=aW_ (b3_.cx E) f6 11 k (B 5 (gP a::.bad::gP b::gB c::nL d e 5::gI f::gI g::gI h::B 95 []))
theorem pQ_:aw_ (b3_.cx E) f6 (k+1) [.agg [.sl x n 5]] H Q=bA (cd_ E) [] H Q fun a=>ce bY_ [.agg [.sl x n 5]] a 5 fun a b c d=>aI dd_ [d] a fun a d=>cY d 0 (bv bb_ [.agg [.sl b c 5],.agg [.sl none 0 5]] a Q) (co bt_ [.agg [.sl x n 5]] a (fun a d e=>aX d fun d _=>uE d (cN bt_ [.agg [.sl b c 5]] a (fun a d f=>cZ b8_ [.agg [.sl b c 5]] a 5 fun a b c g=>b3_.l11 E k e d f b c g 0 0 a Q)))):=zz
theorem b3_.l11_eq:b3_.l11 E (k+1) x y b z n i j h H Q=bg h n (cJ (leI 0 h&&ltI h (nI n)) z H (tN h*5) 3 (fun _ a=>b3_.l11 E k x y b z n i (ac_ .i64 (j+nI a)) (ac_ .i64 (h+1)) H Q)) (aW b Q H (cy i 0 Q H (bq y H 4 (fun _ a=>cy (nI a) j Q H (aY y H 5 (fun _ a=>aY x H 5 fun _ b=>cy (nI a) (nI b) Q H (bq y H 4 (fun _ a=>bq x H 4 fun _ b=>dq (nI a) (nI b) Q H (bC y H 3 (fun _ a=>bC x H 3 fun _ b=>dx Q (nI a) (nI b) H)))))))))):=zz
theorem pS_(E)(h:eE E):ao_ prog 6 (b3_ E):=sO (eZ (gb_ E h) func15 (eZ fr_ func9 (eZ hc_ func11 (eZ fp_ func14 (eZ fB_ func22 (eZ hi_ func18 eN)))))) h func6
def bV_.cx E:=(⟨tys,[],[],[(12,[1,9,13])],[(15,(cd_ E)),(9,bY_),(11,dd_),(14,bb_),(23,a0_),(24,b4_),(19,bL_),(16,eg_),(18,b8_),(21,bz_)],E,[.tmp 8]⟩:Cx)
def bV_ E:=fF (bV_.cx E) f7
def bV_.l12 E k a b c d e:=aW_ (bV_.cx E) f7 12 k (.bad::gS a::B 7 (.bx [.sl b c 5]::B 3 (.bx [.sl d e 5]::B 103 [])))
theorem oD_:aw_ (bV_.cx E) f7 (k+1) [.agg [.sl x n 5],s,t,r] H Q=bA (cd_ E) [] H Q fun a=>ce bY_ [.agg [.sl x n 5]] a 5 fun a b c d=>aI dd_ [d] a fun a d=>cY d 0 (bv bb_ [.agg [.sl b c 5],.agg [.sl none 0 5]] a Q) (ce a0_ [.agg [.sl b c 5],s,mkS [],nN 0] a 5 (fun a d e f=>cY f 0 (Q true a) (ce b4_ [.agg [.sl d e 5],s,t,r] a 5 (fun a f g h=>cY h 0 (bV_.l12 E k s b c d e a Q) (bV_.l12 E k s b c f g a Q))))):=zz
theorem bV_.l12_eq:bV_.l12 E (k+1) s x n y m H Q=ce bL_ [.agg [.sl y m 5],s] H 5 fun a b c d=>ce bY_ [.agg [.sl b c 5]] a 5 fun a b c e=>bF eg_ [.agg [.sl x n 5]] a 2 fun a f _ g=>bf f fun f=>bF eg_ [.agg [.sl b c 5]] a 2 fun a h _ i=>bf h fun h=>bF b8_ [.agg [.sl x n 5]] a 5 fun a j l m=>aU j (bF b8_ [.agg [.sl b c 5]] a 5 (fun a b c j=>aU b (cy d 0 Q a (aI dd_ [e] a (fun a b=>cy b 0 Q a (cy f 0 Q a (cy h 0 Q a (cy (nI g) (nI i) Q a (bv bz_ [nL l m 5,nL c j 5] a Q))))))))):=zz
theorem oP_(E)(h:eE E):ao_ prog 7 (bV_ E):=sO (eZ (gb_ E h) func15 (eZ fr_ func9 (eZ hc_ func11 (eZ fp_ func14 (eZ lx_ func23 (eZ nZ_ func24 (eZ iK_ func19 (eZ m2_ func16 (eZ hi_ func18 (eZ kl_ func21 eN)))))))))) h func7
end Go.Am
namespace Go.Am
open List
theorem ok_:c5_ ((f,s)::l) f=s:=by simp [c5_]
theorem pZ_ (h:f≠g):c5_ ((g,s)::l) f=c5_ l f:=by
 unfold c5_;grind
theorem pe_ (r:Q (.g (.bool (decide (1≤s.size)&&decide (s.size≤6)))) H):dg_ [.g (.str s)] H Q:=by
 refine⟨1,?_⟩;rw[A6_];refine aa_ (fun h=> ?_) (fun h=> ?_)
 ·simp [ke_] at h ⊢;rw[decide_eq_true (show 1≤s.size by omega),Bool.true_and] at r;rw[show decide ((s.size:Int)≤6)=decide (s.size≤6) by rw[decide_eq_decide]; omega];exact r
 ·simp [ke_] at h;grind
theorem mf_ (h:Q (.g (.bool (decide (s.size≤10)))) H):cg_ [.g (.str s)] H Q:=by
 refine⟨1,?_⟩;rw[wO_];simp [ke_];rw[show decide ((s.size:Int)≤10)=decide (s.size≤10) by rw[decide_eq_decide]; omega];exact h
theorem xe_ (r:Q (.g (.bool (decide (1≤k)&&decide (k < 48)))) H):dy_ [.g (.int .i64 k)] H Q:=by
 refine⟨1,?_⟩;rw[zw_];refine aa_ (fun h=> ?_) (fun h=> ?_)
 ·simp_all
 ·simp at h;grind
def h4_ (xs:List ByteArray):Prop:=∀ i,(h:i+1 < xs.length)→dN_ (xs[i]'(by omega)) xs[i+1]=true
theorem sl_ (h:Ss H a n xs) (F:∀ b,(b=true↔h4_ xs)→Q (.g (.bool b)) H):
 ∀ m k:Nat,xs.length - k=m→(∀ i,(hi:i+1 < xs.length)→i < k→dN_ (xs[i]'(by omega)) xs[i+1]=true)→∃ f,cv_.l2 f a n ((k+1:Nat):Int) H Q:=by
 intro m;have U:=h.len;have G:=h.lim;induction m with
 | zero=>
  refine fun k I C=>⟨1,?_⟩;rw[cv_.l2_eq,show ltI ((k+1:Nat)) (nI n)=false by simp; omega,gm_];exact F true ⟨fun _ i hi=>C i hi (by omega),fun _=>rfl⟩
 | succ m O=>
  intro k I C;by_cases r:k+1 < xs.length
  ·have A:ltI ((k+1:Nat)) (nI n)=true:=by simp; omega
   cases D:dN_ (xs[k]'(by omega)) xs[k+1] with
   | true=>
    have ⟨f,N⟩:=O (k+1) (by omega) (fun i hi J=>by
     by_cases e:i=k
     ·grind
     ·exact C i hi (by omega))
    refine⟨f+1,?_⟩;rw[cv_.l2_eq,az_ A,ae_,h.rd k (d5_ (by omega)) (by omega),ae_,h.rd (k+1) rfl r,aD_ (by grind),an_ (by omega)];exact N
   | false=>
    refine⟨1,?_⟩;rw[cv_.l2_eq,az_ A,ae_,h.rd k (d5_ (by omega)) (by omega),ae_,h.rd (k+1) rfl r,az_ (by rw[D]; rfl)];refine F false ⟨fun q=>(by cases q),fun q=> ?_⟩;rw[q k r] at D; cases D
  ·refine⟨1,?_⟩;rw[cv_.l2_eq,show ltI ((k+1:Nat)) (nI n)=false by simp; omega,gm_];exact F true ⟨fun _ i hi=>C i hi (by omega),fun _=>rfl⟩
theorem su_ (h:Ss H a n xs) (A:∀ b,(b=true↔h4_ xs)→Q (.g (.bool b)) H):cv_ [.g (.sl a n 1)] H Q:=by
 have ⟨f,r⟩:=sl_ h A _ 0 rfl (fun i C h=>by omega);exact⟨f+1,r⟩
theorem lD_ {p:ByteArray→Bool} (A:∀ (s:ByteArray) (H:Hp) (Q:Post),Q (.g (.bool (p s))) H→E f [.g (.str s)] H Q) (h:gt H l 0=some (.fn f []))
 (r:Q (.g (.bool (!(p s)))) H):cT_ E [.g (.str s),.g (.ptr (some (l,0)))] H Q:=by
 refine⟨1,?_⟩;rw[nY_,ad_ h,Hh_];exact A s H _ r
theorem qj_ {p:ByteArray→Bool} (I:∀ (s:ByteArray) (Q:Post),Q (.g (.bool (p s))) H→E g [.g (.str s),.g (.ptr (some (l,0)))] H Q)
 (h:Ss H a n xs) (V:∀ i:Int,(0≤i↔∃ s∈xs,p s=true)→Q (.g (.int .i64 i)) H):
 ∀ m k:Nat,xs.length - k=m→k≤xs.length→(∀ i,(hi:i < xs.length)→i < k→p xs[i]=false)→∃ f,aL_.l2 E f a n g [(l,0)] (nI n) (k:Int) H Q:=by
 intro m;have Y:=h.len;have F:=h.lim;induction m with
 | zero=>
  refine fun k J D G=>⟨1,?_⟩;rw[aL_.l2_eq,show ltI k (nI n)=false by simp; omega,gm_];refine V _ ⟨fun q=>by omega,fun⟨s,C,W⟩=> ?_⟩;obtain⟨i,hi,rfl⟩:=kK C;grind
 | succ m U=>
  intro k J D G;have r:k < xs.length:=by omega
  have A:ltI k (nI n)=true:=by simp; omega
  cases C:p xs[k] with
  | false=>
   have ⟨f,O⟩:=U (k+1) (by omega) (by omega) (fun i hi N=>by
    by_cases e:i=k
    ·grind
    ·exact G i hi (by omega))
   refine⟨f+1,?_⟩;rw[aL_.l2_eq,az_ A,ae_,h.rd k rfl r];refine I _ _ ?_;rw[aN_,ak_,C,gm_,an_ (by omega)];exact O
  | true=>
   refine⟨1,?_⟩;rw[aL_.l2_eq,az_ A,ae_,h.rd k rfl r];refine I _ _ ?_;rw[aN_,ak_,C,oc_];grind
theorem iE_ {p:ByteArray→Bool} (O:∀ (s:ByteArray) (H:Hp) (Q:Post),Q (.g (.bool (p s))) H→E f [.g (.str s)] H Q)
 (h:Ss H a n xs) (D:∀ b H',H<+:H'→(b=true↔∀ s∈xs,p s=true)→Q (.g (.bool b)) H'):eb_ E [.g (.sl a n 1),.g (.fn f [])] H Q:=by
 refine⟨1,?_⟩;have F:=b7_ H (.row true IJ_ [.fn f []]);refine⟨1,?_⟩;have ⟨k,N⟩:=qj_ (E:=c5_ [(Hc_,cT_ E)]) (g:=Hc_) (l:=H.length)
  (fun s Q D=>lD_ O (by simp [gt]) D) (Q:=fun r J=>rG r fun C=>dI .i64 C fun I=>rG (.g (.bool (leI 0 I))) fun C=>dB C fun b3=>Q (.g (.bool (!b3))) J) (h.mono F)
  (fun i G=>by
   rw[aN_,ai_,aN_,ak_];refine D _ _ F ?_;simp only[ke_,Bool.not_eq_true',decide_eq_false_iff_not];rw[G];constructor
   ·intro q s A;cases e:p s with
    | true=>rfl
    | false=>exact (q ⟨s,A,by grind⟩).elim
   ·rintro q ⟨s,A,e⟩;rw[q s A] at e; cases e) _ 0 rfl (kP _) (fun i G h=>by omega)
 exact⟨k+1,N
⟩
theorem oq_ {p:Int→Bool} (A:∀ (s:Int) (H:Hp) (Q:Post),Q (.g (.bool (p s))) H→E f [.g (.int .i64 s)] H Q) (h:gt H l 0=some (.fn f []))
 (r:Q (.g (.bool (!(p s)))) H):d1_ E [.g (.int .i64 s),.g (.ptr (some (l,0)))] H Q:=by
 refine⟨1,?_⟩;rw[ro_,ad_ h,Hh_];exact A s H _ r
theorem uW_ {p:Int→Bool} {g l:Nat} (I:∀ (s:Int) (Q:Post),Q (.g (.bool (p s))) H→E g [.g (.int .i64 s),.g (.ptr (some (l,0)))] H Q)
 (h:Is H a n xs) (V:∀ i:Int,(0≤i↔∃ s∈xs,p s=true)→Q (.g (.int .i64 i)) H):
 ∀ m k:Nat,xs.length - k=m→k≤xs.length→(∀ i,(hi:i < xs.length)→i < k→p xs[i]=false)→∃ f,a2_.l2 E f a n g [(l,0)] (nI n) (k:Int) H Q:=by
 intro m;have Y:=h.len;have F:=h.lim;induction m with
 | zero=>
  refine fun k J D G=>⟨1,?_⟩;rw[a2_.l2_eq,show ltI k (nI n)=false by simp; omega,gm_];refine V _ ⟨fun q=>by omega,fun⟨s,C,W⟩=> ?_⟩;obtain⟨i,hi,rfl⟩:=kK C;grind
 | succ m U=>
  intro k J D G;have r:k < xs.length:=by omega
  have A:ltI k (nI n)=true:=by simp; omega
  cases C:p xs[k] with
  | false=>
   have ⟨f,O⟩:=U (k+1) (by omega) (by omega) (fun i hi N=>by
    by_cases e:i=k
    ·grind
    ·exact G i hi (by omega))
   refine⟨f+1,?_⟩;rw[a2_.l2_eq,az_ A,ae_,h.rd k rfl r];refine I _ _ ?_;rw[aN_,ak_,C,gm_,an_ (by omega)];exact O
  | true=>
   refine⟨1,?_⟩;rw[a2_.l2_eq,az_ A,ae_,h.rd k rfl r];refine I _ _ ?_;rw[aN_,ak_,C,oc_];grind
theorem q4_ {p:Int→Bool} (O:∀ (s:Int) (H:Hp) (Q:Post),Q (.g (.bool (p s))) H→E f [.g (.int .i64 s)] H Q)
 (h:Is H a n xs) (D:∀ b H',H<+:H'→(b=true↔∀ s∈xs,p s=true)→Q (.g (.bool b)) H'):gE_ E [.g (.sl a n 1),.g (.fn f [])] H Q:=by
 refine⟨1,?_⟩;have F:=b7_ H (.row true IL_ [.fn f []]);refine⟨1,?_⟩;have ⟨k,N⟩:=uW_ (E:=c5_ [(G7_,d1_ E)]) (g:=G7_) (l:=H.length)
  (fun s Q D=>oq_ O (by simp [gt]) D) (Q:=fun r J=>rG r fun C=>dI .i64 C fun I=>rG (.g (.bool (leI 0 I))) fun C=>dB C fun b3=>Q (.g (.bool (!b3))) J) (h.mono F)
  (fun i G=>by
   rw[aN_,ai_,aN_,ak_];refine D _ _ F ?_;simp only[ke_,Bool.not_eq_true',decide_eq_false_iff_not];rw[G];constructor
   ·intro q s A;cases e:p s with
    | true=>rfl
    | false=>exact (q ⟨s,A,by grind⟩).elim
   ·rintro q ⟨s,A,e⟩;rw[q s A] at e; cases e) _ 0 rfl (kP _) (fun i G h=>by omega)
 exact⟨k+1,N⟩
end Go.Am
namespace Go.Am
open List
def Ha_ (zs:List Int):Prop:=∀ i,(h:i+1 < zs.length)→zs[i]'(by omega)≠zs[i+1]
theorem Is.row {C:List Int} (h:H[l]? =some (.row own t (C.map (GV.int .i64)))) (D:o+n=C.length) (r:n*8≤140737488351232):Is H (some (l,o)) n (C.drop o):=
 ⟨by simp only[cells?,h]; rw[if_pos (by grind)]; rw[←map_drop,←map_take,take_of_length_le (by grind)],by grind,r⟩
theorem BY_ {H0:Hp} {l n o n2:Nat} {Q:Post} (hb:H0.length≤l) (hlim:n*8≤140737488351232) (hon:o+n2=n) (hQ:∀ (j:Nat) H',H0<+:H'→j < n→Q (.g (.sl (some (l,0)) j 1)) H'):
 ∀ (m' m j:Nat) (H:Hp) (ws:List Int),n2 - m=m'→1≤m→m≤n2→1≤j→j+1≤o+m→H0<+:H→H[l]? =some (.row true tI (ws.map (GV.int .i64)))→ws.length=n→
  ∃ f,ar_.l9 f (some (l,0)) n (j:Int) (some (l,o)) n2 (m:Int) H Q:=by
 intro m';induction m' with
 | zero=>
  intro m j H ws hm h1 h2 hj hjo h0 hrow hw;refine⟨1,?_⟩;obtain⟨d,hd⟩:∃ d,n - j=d+1:=⟨n - j - 1,by omega⟩;rw[ar_.l9_eq,aD_ (by simp; omega),ae_];refine ab_ (by simp) (ab_ (by simp; omega) ?_);simp only[Bu_,Int.toNat_natCast,Nat.mul_one,wF_,kN,ae_,hd];show (match H[l]? with
   | some (.row true t cs)=>j+(d+1)*1≤cs.length∧_
   | _=>False)
  rw[hrow];refine⟨by simp; omega,ab_ (by simp) (ab_ (by simp; omega) ?_)⟩;exact hQ j _ (ej_ h0 hb _) (by omega)
 | succ m' ih=>
  intro m j H ws hm h1 h2 hj hjo h0 hrow hw;have hI:=Is.row (o:=o) (n:=n2) hrow (by omega) (by omega);have hmn:m < (ws.drop o).length:=by simp; omega
  obtain⟨m1,rfl⟩:∃ m1,m=m1+1:=⟨m - 1,by omega⟩;have hm1:m1 < (ws.drop o).length:=by omega
  have hlt:ltI ((m1+1:Nat):Int) (nI n2)=true:=by simp; omega
  by_cases he:(ws.drop o)[m1+1]=(ws.drop o)[m1]
  ·obtain⟨f,hf⟩:=ih (m1+1+1) j H ws (by omega) (by omega) (by omega) hj (by omega) h0 hrow hw;refine⟨f+1,?_⟩;rw[ar_.l9_eq,az_ hlt,ae_,hI.rd (m1+1) rfl hmn,ae_,hI.rd m1 (d5_ (by omega)) hm1,aD_ (by simpa using he),an_ (by omega)];exact hf
  ·have hjn:j < (ws.map (GV.int .i64)).length:=by simp; omega
   obtain⟨f,hf⟩:=ih (m1+1+1) (j+1) (H.set l (.row true tI ((ws.set j (ws.drop o)[m1+1]).map (GV.int .i64)))) (ws.set j (ws.drop o)[m1+1]) (by omega) (by omega) (by omega) (by omega) (by omega) (ej_ h0 hb _)
    (by rw[kH]; exact (kC.1 hrow).1) (by simpa using hw)
   refine⟨f+1,?_⟩;rw[ar_.l9_eq,az_ hlt,ae_,hI.rd (m1+1) rfl hmn,ae_,hI.rd m1 (d5_ (by omega)) hm1,az_ (by simpa using he),ae_,hI.rd (m1+1) rfl hmn,ae_];refine ab_ (by simp; omega) ?_;simp only[Bu_,Int.toNat_natCast,Nat.mul_one,af_,kN];rw[qz_ hrow hjn,an_ (by omega),an_ (by omega)];rw[List.map_set] at hf;exact hf
theorem yN_ {H0 H:Hp} {l:Nat} {zs:List Int} {Q:Post} (h0:H0<+:H) (hb:H0.length≤l) (hrow:H[l]? =some (.row true tI (zs.map (GV.int .i64)))) (hlim:zs.length*8≤140737488351232)
 (hQ:∀ (a:Pl) (j:Nat) H',H0<+:H'→(j=zs.length↔Ha_ zs)→Q (.g (.sl a j 1)) H'):ar_ [.g (.sl (some (l,0)) zs.length 1)] H Q:=by
 have hI:=Is.row (o:=0) (n:=zs.length) hrow (by omega) hlim;rw[drop_zero] at hI;have loop:∀ m k:Nat,zs.length - k=m→k+1≤zs.length→(∀ i,(h:i+1 < zs.length)→i < k→zs[i]'(by omega)≠zs[i+1])→∃ f,ar_.l4 f (some (l,0)) zs.length ((k+1:Nat):Int) H Q:=by
  intro m;induction m with
  | zero=>intro k hm hk; omega
  | succ m ih=>
   intro k hm hk hne;by_cases hkn:k+1 < zs.length
   ·have hlt:ltI ((k+1:Nat):Int) (nI zs.length)=true:=by simp; omega
    by_cases he:zs[k+1]=zs[k]'(by omega)
    ·obtain⟨f,hf⟩:=BY_ (H0:=H0) (l:=l) (n:=zs.length) (o:=k+1) (n2:=zs.length - (k+1)) (Q:=Q) hb hlim (by omega) (fun j H' h1 h2=>hQ _ j H' h1 ⟨fun e=>by omega,fun q=>(q k hkn he.symm).elim⟩)
      _ 1 (k+1) H zs rfl (by omega) (by omega) (by omega) (by omega) h0 hrow rfl
     refine⟨f+1,?_⟩;rw[ar_.l4_eq,az_ hlt,ae_,hI.rd (k+1) rfl hkn,ae_,hI.rd k (d5_ (by omega)) (by omega),az_ (by simpa using he),ae_];refine ab_ (by simp; omega) (ab_ (by simp; omega) ?_);simp only[Bu_,Int.toNat_natCast,Nat.mul_one,wF_,kN];exact hf
    ·obtain⟨f,hf⟩:=ih (k+1) (by omega) (by omega) (fun i hi hik=>by
      by_cases e:i=k
      ·subst e; exact fun q=>he q.symm
      ·exact hne i hi (by omega))
     refine⟨f+1,?_⟩;rw[ar_.l4_eq,az_ hlt,ae_,hI.rd (k+1) rfl hkn,ae_,hI.rd k (d5_ (by omega)) (by omega),aD_ (by simpa using he),an_ (by omega)];exact hf
   ·refine⟨1,?_⟩;rw[ar_.l4_eq,aD_ (by simp; omega)];exact hQ _ _ _ h0 ⟨fun _ i hi=>hne i hi (by omega),fun _=>rfl⟩
 by_cases h2:zs.length < 2
 ·refine⟨1,?_⟩;rw[eL_,az_ (by simp; omega)];exact hQ _ _ _ h0 ⟨fun _ i hi=>by omega,fun _=>rfl⟩
 ·obtain⟨f,hf⟩:=loop _ 0 rfl (by omega) (fun i hi h=>by omega);refine⟨f+1,?_⟩;rw[eL_,aD_ (by simp; omega)];exact hf
theorem yS_ {zs:List Int}:Ha_ (zs.mergeSort fun x y=>decide (x≤y))↔zs.Nodup:=by
 have G:=mergeSort_perm zs (fun x y=>decide (x≤y));have A:(zs.mergeSort fun x y=>decide (x≤y)).Pairwise fun x y=>x≤y:=by
  have:=pairwise_mergeSort (le:=fun (x y:Int)=>decide (x≤y)) (fun a b c D C=>by grind) (fun a b=>by simp; omega) zs;grind
 rw[←G.nodup_iff];generalize (zs.mergeSort fun x y=>decide (x≤y))=ws at A;constructor
 ·intro h;rw[Nodup,pairwise_iff_getElem];have key:∀ d i,(r:i+d+1 < ws.length)→ws[i]'(by omega) < ws[i+d+1]:=by
   intro d;induction d with
   | zero=>
    intro i r;have D:=(pairwise_iff_getElem.1 A) i (i+1) (by omega) (by omega) (by omega);have C:=h i (by omega);grind
   | succ d F=>
    intro i r;have D:=F i (by omega);have C:=(pairwise_iff_getElem.1 A) (i+d+1) (i+(d+1)+1) (by omega) (by omega) (by omega);omega
  intro i j r J I;obtain⟨d,rfl⟩:∃ d,j=i+d+1:=⟨j - i - 1,by omega⟩;grind
 ·exact fun h i r=>(pairwise_iff_getElem.1 h) i (i+1) (by omega) (by omega) (by omega)
theorem r7_ (h:Is H a n zs) (U:∀ b H',H<+:H'→(b=true↔zs.Nodup)→Q (.g (.bool b)) H'):gc_ E [.g (.sl a n 1)] H Q:=by
 refine⟨1,?_⟩;rw[uL_];refine⟨1,⟨1,?_⟩⟩;rw[m1_];refine⟨1,?_⟩;rw[mw_];have C:=h.len;have G:=h.lim;have J:=b7_ H (.row true tIs [.sl a n 1]);refine⟨H.length,tIs,[.sl a n 1],a,n,zs,rfl,by simp,rfl,(h.mono J).cells,by unfold Lim; omega,fun I=> ?_,fun I=> ?_⟩
 ·simp [aN_];refine .inl ⟨rfl,⟨1,?_⟩⟩;rw[eL_,az_ (by simp)];simp_all
 ·simp only[aN_,ah_];refine .inr ⟨(H++[Obj.row true tIs [.sl a n 1]]).length,zs,rfl,I,by unfold Lim; omega,by simp,?_⟩;have e:((H++[Obj.row true tIs [.sl a n 1]])++[Obj.row true tI (zs.map (GV.int .i64))]).set (H++[Obj.row true tIs [.sl a n 1]]).length (Obj.row true tI ((zs.mergeSort fun x y=>decide (x≤y)).map (GV.int .i64)))=
   (H++[Obj.row true tIs [.sl a n 1]])++[Obj.row true tI ((zs.mergeSort fun x y=>decide (x≤y)).map (GV.int .i64))]:=by
   grind
  simp only[f0_];rw[e];have A:(zs.mergeSort fun x y=>decide (x≤y)).length=zs.length:=by simp
  have key:=yN_ (H:=(H++[Obj.row true tIs [.sl a n 1]])++[Obj.row true tI ((zs.mergeSort fun x y=>decide (x≤y)).map (GV.int .i64))]) (l:=(H++[Obj.row true tIs [.sl a n 1]]).length)
   (zs:=zs.mergeSort fun x y=>decide (x≤y)) (J.trans (prefix_append _ _)) (by simp) (by simp) (by omega)
   (Q:=fun W V=>rG W fun D=>dL 1 D fun O F=>Q (.g (.bool (eqI (nI F) (nI n)))) V) (fun Z j H' N Y=>by
    simp [aN_];refine U _ _ N ?_;rw[←yS_,←Y,A,←C];simp;omega)
  rw[A] at key;exact key
end Go.Am
namespace Go.Am
open List
structure Pg where
 used:Bool
 leaf:Bool
 keys:List ByteArray
 vals:List ByteArray
 kids:List Int
structure jJ_ (H:Hp) (u l:Bool) (a1:Pl) (n1:Nat) (a2:Pl) (n2:Nat) (a3:Pl) (n3:Nat) (p:Pg):Prop where
 used:p.used=u
 leaf:p.leaf=l
 keys:Ss H a1 n1 p.keys
 vals:Ss H a2 n2 p.vals
 kids:Is H a3 n3 p.kids
theorem jJ_.mono {H H':Hp} (r:H<+:H') (h:jJ_ H u l a1 n1 a2 n2 a3 n3 p):jJ_ H' u l a1 n1 a2 n2 a3 n3 p:=
 ⟨h.used,h.leaf,h.keys.mono r,h.vals.mono r,h.kids.mono r⟩
structure k2_ (p:Pg):Prop where
 used:p.used=true
 rising:h4_ p.keys
 keys:∀ k∈p.keys,1≤k.size∧k.size≤6
 leaf:p.leaf=true→p.vals.length=p.keys.length∧p.kids=[]∧∀ v∈p.vals,v.size≤10
 inner:p.leaf=false→1≤p.keys.length∧p.vals=[]∧p.kids.length=p.keys.length+1∧(∀ k∈p.kids,1≤k∧k < 48)∧p.kids.Nodup
def fS_ (p:Pg):Prop:=p.keys.length≤4∧k2_ p
section
variable {H:Hp} {Q:Post} {u l:Bool} {a1:Pl} {n1:Nat} {a2:Pl} {n2:Nat} {a3:Pl} {n3:Nat} {p:Pg}
theorem vz_ (h:jJ_ H u l a1 n1 a2 n2 a3 n3 p) (hQ:∀ b H',H<+:H'→(b=true↔k2_ p)→Q (.g (.bool b)) H'):
 je_ [.agg [.bool u,.bool l,.sl a1 n1 1,.sl a2 n2 1,.sl a3 n3 1]] H Q:=by
 obtain⟨hu,hl,hk,hv,hi⟩:=h;have n1e:=hk.len;have n2e:=hv.len;have n3e:=hi.len;have l1:=hk.lim;have l3:=hi.lim;have EK:∀ (s:ByteArray) (H:Hp) (Q:Post),Q (.g (.bool (decide (1≤s.size)&&decide (s.size≤6)))) H→c5_ [(Gk_,dg_),(Gw_,cg_),(F9_,dy_)] Gk_ [.g (.str s)] H Q:=
  fun s H Q q=>by rw[ok_]; exact pe_ q
 have EV:∀ (s:ByteArray) (H:Hp) (Q:Post),Q (.g (.bool (decide (s.size≤10)))) H→c5_ [(Gk_,dg_),(Gw_,cg_),(F9_,dy_)] Gw_ [.g (.str s)] H Q:=
  fun s H Q q=>by rw[pZ_ (by decide),ok_]; exact mf_ q
 have EI:∀ (s:Int) (H:Hp) (Q:Post),Q (.g (.bool (decide (1≤s)&&decide (s < 48)))) H→c5_ [(Gk_,dg_),(Gw_,cg_),(F9_,dy_)] F9_ [.g (.int .i64 s)] H Q:=
  fun s H Q q=>by rw[pZ_ (by decide),pZ_ (by decide),ok_]; exact xe_ q
 refine⟨1,?_⟩;rw[zj_];refine aa_ (fun e=>hQ _ _ (prefix_refl _) ⟨fun q=>(by cases q),fun q=> ?_⟩) (fun e=> ?_)
 ·rw[←hu,q.used] at e; cases e
 refine su_ hk fun b hb=> ?_;simp only[aN_,ak_];refine aa_ (fun e1=>hQ _ _ (prefix_refl _) ⟨fun q=>(by cases q),fun q=> ?_⟩) (fun e1=> ?_)
 ·rw[hb.2 q.rising] at e1; cases e1
 refine iE_ EK hk fun b2 H2 p2 hb2=> ?_;simp only[aN_,ak_];have hkeys:(∀ k∈p.keys,1≤k.size∧k.size≤6)↔∀ s∈p.keys,(decide (1≤s.size)&&decide (s.size≤6))=true:=by simp
 refine aa_ (fun e2=>hQ _ _ p2 ⟨fun q=>(by cases q),fun q=> ?_⟩) (fun e2=> ?_)
 ·rw[hb2.2 (hkeys.1 q.keys)] at e2; cases e2
 have hR:h4_ p.keys:=hb.1 (by cases b<;>simp_all);have hK:=hkeys.2 (hb2.1 (by cases b2<;>simp_all));have hU:p.used=true:=by rw[hu]; cases u<;>simp_all
 refine aa_ (fun e3=> ?_) (fun e3=> ?_)
 ·have hL:p.leaf=true:=by rw[hl]; exact e3
  refine aa_ (fun e4=> ?_) (fun e4=>hQ _ _ p2 ⟨fun q=>(by cases q),fun q=> ?_⟩)
  rotate_left
  ·have:=(q.leaf hL).1; simp at e4; omega
  refine aa_ (fun e5=> ?_) (fun e5=>hQ _ _ p2 ⟨fun q=>(by cases q),fun q=> ?_⟩)
  rotate_left
  ·have:=(q.leaf hL).2.1; simp [this] at n3e; simp at e5; omega
  refine iE_ EV (hv.mono p2) fun b3 H3 p3 hb3=> ?_;simp only[aN_,ak_];refine hQ _ _ (p2.trans p3) (hb3.trans ⟨fun q=>⟨hU,hR,hK,fun _=>⟨?_,?_,by simpa using q⟩,fun q=>(by rw[hL] at q; cases q)⟩,fun q=>by simpa using (q.leaf hL).2.2⟩)
  ·simp at e4; omega
  ·simp at e5; exact eq_nil_of_length_eq_zero (by omega)
 ·have hL:p.leaf=false:=by rw[hl]; exact e3
  refine aa_ (fun e4=> ?_) (fun e4=>hQ _ _ p2 ⟨fun q=>(by cases q),fun q=> ?_⟩)
  rotate_left
  ·have:=(q.inner hL).1; simp at e4; omega
  refine aa_ (fun e5=> ?_) (fun e5=>hQ _ _ p2 ⟨fun q=>(by cases q),fun q=> ?_⟩)
  rotate_left
  ·have:=(q.inner hL).2.1; simp [this] at n2e; simp at e5; omega
  refine aa_ (fun e6=> ?_) (fun e6=>hQ _ _ p2 ⟨fun q=>(by cases q),fun q=> ?_⟩)
  rotate_left
  ·have:=(q.inner hL).2.2.1; simp only[iI_] at e6; rw[an_ (by omega)] at e6; simp at e6; omega
  simp only[iI_] at e6;rw[an_ (by omega)] at e6;refine q4_ EI (hi.mono p2) fun b3 H3 p3 hb3=> ?_;simp only[aN_,ak_];refine aa_ (fun e7=> ?_) (fun e7=>hQ _ _ (p2.trans p3) ⟨fun q=>(by cases q),fun q=> ?_⟩)
  rotate_left
  ·rw[hb3.2 (by simpa using (q.inner hL).2.2.2.1)] at e7; cases e7
  refine r7_ (hi.mono (p2.trans p3)) fun b4 H4 p4 hb4=> ?_;simp only[aN_,ak_];refine hQ _ _ ((p2.trans p3).trans p4) (hb4.trans ⟨fun q=>⟨hU,hR,hK,fun q=>(by rw[hL] at q; cases q),fun _=>⟨?_,?_,?_,by simpa using hb3.1 e7,q⟩⟩,fun q=>(q.inner hL).2.2.2.2⟩)
  ·simp at e4; omega
  ·simp at e5; exact eq_nil_of_length_eq_zero (by omega)
  ·simp at e6; omega
theorem ie_ (h:jJ_ H u l a1 n1 a2 n2 a3 n3 p) (r:∀ b H',H<+:H'→(b=true↔fS_ p)→Q (.g (.bool b)) H'):
 gP_ [.agg [.bool u,.bool l,.sl a1 n1 1,.sl a2 n2 1,.sl a3 n3 1]] H Q:=by
 have D:=h.keys.len;refine⟨1,aa_ (fun e=> ?_) (fun e=>r _ _ (prefix_refl _) ⟨fun q=>(by grind),fun q=> ?_⟩)⟩
 ·refine vz_ h fun b H' A C=> ?_;simp at e;exact r _ _ A (C.trans ⟨fun q=>⟨by omega,q⟩,fun q=>q.2⟩)
 ·have:=q.1; simp at e; omega
theorem gw_ {xs:List ByteArray} (h:Ss H a1 n1 xs) (hQ:∀ b,(b=true↔(h4_ xs∧∀ k∈xs,1≤k.size∧k.size≤6))→Q (.g (.bool b)) H):bT_ [.g (.sl a1 n1 1)] H Q:=by
 have hn:=h.len;have hlim:=h.lim;have loop:∀ m k:Nat,xs.length - k=m→k≤xs.length→(∀ i,(hi:i < xs.length)→i < k→1≤xs[i].size∧xs[i].size≤6)→(∀ i,(hi:i+1 < xs.length)→i+1 < k→dN_ (xs[i]'(by omega)) xs[i+1]=true)→
  ∃ f,bT_.l2 f a1 n1 (k:Int) H Q:=by
  intro m;induction m with
  | zero=>
   intro k hm hle h1 h2;refine⟨1,?_⟩;rw[bT_.l2_eq,aD_ (by simp; omega)];exact hQ true ⟨fun _=>⟨fun i hi=>h2 i hi (by omega),fun s hs=>by obtain⟨i,hi,rfl⟩:=kK hs; exact h1 i hi (by omega)⟩,fun _=>rfl⟩
  | succ m ih=>
   intro k hm hle h1 h2;have hkn:k < xs.length:=by omega
   have hlt:ltI (k:Int) (nI n1)=true:=by simp; omega
   by_cases c1:xs[k].size < 1
   ·refine⟨1,?_⟩;rw[bT_.l2_eq,az_ hlt,ae_,h.rd k rfl hkn,az_ (by simp; omega)];exact hQ false ⟨fun q=>(by cases q),fun q=>by have:=(q.2 _ (kE hkn)).1; omega⟩
   by_cases c2:6 < xs[k].size
   ·refine⟨1,?_⟩;rw[bT_.l2_eq,az_ hlt,ae_,h.rd k rfl hkn,aD_ (by simp; omega),ae_,h.rd k rfl hkn,az_ (by simp; omega)];exact hQ false ⟨fun q=>(by cases q),fun q=>by have:=(q.2 _ (kE hkn)).2; omega⟩
   have h1':∀ i,(hi:i < xs.length)→i < k+1→1≤xs[i].size∧xs[i].size≤6:=fun i hi hik=>by
    by_cases e:i=k
    ·subst e; omega
    ·exact h1 i hi (by omega)
   cases k with
   | zero=>
    obtain⟨f,hf⟩:=ih 1 (by omega) (by omega) h1' (fun i hi h=>by omega);refine⟨f+1,?_⟩;rw[bT_.l2_eq,az_ hlt,ae_,h.rd 0 rfl hkn,aD_ (by simp; omega),ae_,h.rd 0 rfl hkn,aD_ (by simp; omega),aD_ (by simp),an_ (by omega)];exact hf
   | succ k=>
    cases hs:dN_ (xs[k]'(by omega)) xs[k+1] with
    | true=>
     obtain⟨f,hf⟩:=ih (k+1+1) (by omega) (by omega) h1' (fun i hi hik=>by
      by_cases e:i=k
      ·subst e; exact hs
      ·exact h2 i hi (by omega))
     refine⟨f+1,?_⟩;rw[bT_.l2_eq,az_ hlt,ae_,h.rd (k+1) rfl hkn,aD_ (by simp; omega),ae_,h.rd (k+1) rfl hkn,aD_ (by simp; omega),az_ (by simp<;>omega),ae_,h.rd (k+1) rfl hkn,ae_,
      h.rd k (d5_ (by omega)) (by omega),aD_ (by rw[xm_] at hs; simpa using hs),an_ (by omega)]
     exact hf
    | false=>
     refine⟨1,?_⟩;rw[bT_.l2_eq,az_ hlt,ae_,h.rd (k+1) rfl hkn,aD_ (by simp; omega),ae_,h.rd (k+1) rfl hkn,aD_ (by simp; omega),az_ (by simp<;>omega),ae_,h.rd (k+1) rfl hkn,ae_,
      h.rd k (d5_ (by omega)) (by omega),az_ (by rw[xm_] at hs; rw[oa_]; rw[Bool.not_eq_false'] at hs; exact hs)]
     exact hQ false ⟨fun q=>(by cases q),fun q=>by rw[q.1 k hkn] at hs; cases hs⟩
 obtain⟨f,hf⟩:=loop _ 0 rfl (kP _) (fun i hi h=>by omega) (fun i hi h=>by omega);exact⟨f+1,by rw[vk_]; exact hf⟩
theorem pW_ {most:Nat} (hmost:most≤1000) (h:jJ_ H u l a1 n1 a2 n2 a3 n3 p) (hQ:∀ b,(b=true↔(p.keys.length≤most∧k2_ p))→Q (.g (.bool b)) H):
 aJ_ [.agg [.bool u,.bool l,.sl a1 n1 1,.sl a2 n2 1,.sl a3 n3 1],.g (.int .i64 most)] H Q:=by
 obtain⟨hu,hl,hk,hv,hi⟩:=h;have n1e:=hk.len;have n2e:=hv.len;have n3e:=hi.len;have l1:=hk.lim;have l2:=hv.lim;have l3:=hi.lim;have leafs:p.leaf=true→(∀ b,(b=true↔(p.vals.length=p.keys.length∧p.kids=[]∧∀ v∈p.vals,v.size≤10))→Q (.g (.bool b)) H)→∀ m k:Nat,p.vals.length - k=m→k≤p.vals.length→(∀ i,(hi:i < p.vals.length)→i < k→(p.vals[i]).size≤10)→
  ∃ f,aJ_.l5 f u l a1 n1 a2 n2 a3 n3 (k:Int) H Q:=by
  intro hL hQ' m;induction m with
  | zero=>
   intro k hm hle h1;refine⟨1,?_⟩;rw[aJ_.l5_eq,aD_ (by simp; omega)];have hall:∀ v∈p.vals,v.size≤10:=fun s hs=>by obtain⟨i,hi,rfl⟩:=kK hs; exact h1 i hi (by omega)
   refine aa_ (fun e=>hQ' _ ?_) (fun e=>hQ' _ ⟨fun q=>(by cases q),fun q=> ?_⟩)
   ·simp at e ⊢;refine⟨fun q=>⟨by omega,eq_nil_of_length_eq_zero (by omega),hall⟩,fun q=> ?_⟩;have:=q.2.1;rw[this] at n3e; exact n3e
   ·have:=q.1; simp at e; omega
  | succ m ih=>
   intro k hm hle h1;have hkn:k < p.vals.length:=by omega
   have hlt:ltI (k:Int) (nI n2)=true:=by simp; omega
   by_cases c1:10 < (p.vals[k]).size
   ·refine⟨1,?_⟩;rw[aJ_.l5_eq,az_ hlt,ae_,hv.rd k rfl hkn,az_ (by simp; omega)];exact hQ' false ⟨fun q=>(by cases q),fun q=>by have:=q.2.2 _ (kE hkn); omega⟩
   ·obtain⟨f,hf⟩:=ih (k+1) (by omega) (by omega) (fun i hi hik=>by
     by_cases e:i=k
     ·subst e; omega
     ·exact h1 i hi (by omega))
    refine⟨f+1,?_⟩;rw[aJ_.l5_eq,az_ hlt,ae_,hv.rd k rfl hkn,aD_ (by simp; omega),an_ (by omega)];exact hf
 have inners:p.leaf=false→(∀ b,(b=true↔(1≤p.keys.length∧p.vals=[]∧p.kids.length=p.keys.length+1∧(∀ k∈p.kids,1≤k∧k < 48)∧p.kids.Nodup))→Q (.g (.bool b)) H)→∀ m k:Nat,p.kids.length - k=m→k≤p.kids.length→
  (∀ i,(hi:i < p.kids.length)→i < k→1≤p.kids[i]∧p.kids[i] < 48)→(∀ i j,(hj:j < p.kids.length)→(hij:i < j)→j < k→p.kids[i]'(by omega)≠p.kids[j])→
  ∃ f,aJ_.l11 f u l a1 n1 a2 n2 a3 n3 (k:Int) H Q:=by
  intro hL hQ' m;induction m with
  | zero=>
   intro k hm hle h1 h2;refine⟨1,?_⟩;rw[aJ_.l11_eq,aD_ (by simp; omega)];have hall:∀ v∈p.kids,1≤v∧v < 48:=fun s hs=>by obtain⟨i,hi,rfl⟩:=kK hs; exact h1 i hi (by omega)
   have hnd:p.kids.Nodup:=by
    rw[Nodup,pairwise_iff_getElem];exact fun i j _ hj hij=>h2 i j hj hij (by omega)
   refine aa_ (fun e=> ?_) (fun e=>hQ' _ ⟨fun q=>(by cases q),fun q=> ?_⟩)
   rotate_left
   ·have:=q.1; simp at e; omega
   refine aa_ (fun e2=>hQ' _ ?_) (fun e2=>hQ' _ ⟨fun q=>(by cases q),fun q=> ?_⟩)
   rotate_left
   ·have:=q.2.1; rw[this] at n2e; simp at e2 n2e; omega
   simp only[iI_];rw[an_ (by omega)];simp at e e2 ⊢;exact⟨fun q=>⟨by omega,eq_nil_of_length_eq_zero (by omega),by omega,hall,hnd⟩,fun q=>by have:=q.2.2.1; omega⟩
  | succ m ih=>
   intro k hm hle h1 h2;have hkn:k < p.kids.length:=by omega
   have hlt:ltI (k:Int) (nI n3)=true:=by simp; omega
   by_cases c1:p.kids[k] < 1
   ·refine⟨1,?_⟩;rw[aJ_.l11_eq,az_ hlt,ae_,hi.rd k rfl hkn,az_ (by simpa using c1)];exact hQ' false ⟨fun q=>(by cases q),fun q=>by have:=q.2.2.2.1 _ (kE hkn); omega⟩
   by_cases c2:48≤p.kids[k]
   ·refine⟨1,?_⟩;rw[aJ_.l11_eq,az_ hlt,ae_,hi.rd k rfl hkn,aD_ (by simpa using c1),ae_,hi.rd k rfl hkn,az_ (by simpa using c2)];exact hQ' false ⟨fun q=>(by cases q),fun q=>by have:=q.2.2.2.1 _ (kE hkn); omega⟩
   have loop:∀ m' j:Nat,k - j=m'→j≤k→(∀ i,(hi:i < j)→(hi2:i < k)→p.kids[i]'(by omega)≠p.kids[k])→∃ f,aJ_.l16 f u l a1 n1 a2 n2 a3 n3 (k:Int) (j:Int) H Q:=by
    intro m';induction m' with
    | zero=>
     intro j hj hjk h3;obtain⟨f,hf⟩:=ih (k+1) (by omega) (by omega)
      (fun i hi hik=>by
       by_cases e:i=k
       ·subst e; omega
       ·exact h1 i hi (by omega))
      (fun i j' hj' hij hjk'=>by
       by_cases e:j'=k
       ·subst e; exact h3 i (by omega) hij
       ·exact h2 i j' hj' hij (by omega))
     refine⟨f+1,?_⟩;rw[aJ_.l16_eq,aD_ (by simp; omega),an_ (by omega)];exact hf
    | succ m' ih'=>
     intro j hj hjk h3;have hjn:j < p.kids.length:=by omega
     by_cases e:p.kids[j]=p.kids[k]
     ·refine⟨1,?_⟩;rw[aJ_.l16_eq,az_ (by simp; omega),ae_,hi.rd j rfl hjn,ae_,hi.rd k rfl hkn,az_ (by simpa using e)];refine hQ' false ⟨fun q=>(by cases q),fun q=> ?_⟩;exact ((pairwise_iff_getElem.1 q.2.2.2.2) j k hjn hkn (by omega) e).elim
     ·obtain⟨f,hf⟩:=ih' (j+1) (by omega) (by omega) (fun i hi hi2=>by
       by_cases e':i=j
       ·subst e'; exact e
       ·exact h3 i (by omega) hi2)
      refine⟨f+1,?_⟩;rw[aJ_.l16_eq,az_ (by simp; omega),ae_,hi.rd j rfl hjn,ae_,hi.rd k rfl hkn,aD_ (by simpa using e),an_ (by omega)];exact hf
   obtain⟨f,hf⟩:=loop _ 0 rfl (kP _) (fun i hi=>by omega);refine⟨f+1,?_⟩;rw[aJ_.l11_eq,az_ hlt,ae_,hi.rd k rfl hkn,aD_ (by simpa using c1),ae_,hi.rd k rfl hkn,aD_ (by simpa using c2)];exact hf
 by_cases cu:u=true
 rotate_left
 ·refine⟨1,?_⟩;rw[fm_,az_ (by cases u<;>simp_all)];exact hQ _ ⟨fun q=>(by cases q),fun q=>by have:=q.2.used; rw[hu] at this; exact (cu this).elim⟩
 by_cases cr:h4_ p.keys∧∀ k∈p.keys,1≤k.size∧k.size≤6
 rotate_left
 ·refine⟨1,?_⟩;rw[fm_,aD_ (by rw[cu]; rfl)];refine gw_ hk fun b hb=> ?_;simp only[aN_,ak_];rw[az_ (by cases b with | false=>rfl | true=>exact (cr (hb.1 rfl)).elim)];exact hQ _ ⟨fun q=>(by cases q),fun q=>(cr ⟨q.2.rising,q.2.keys⟩).elim⟩
 by_cases cm:n1≤most
 rotate_left
 ·refine⟨1,?_⟩;rw[fm_,aD_ (by rw[cu]; rfl)];refine gw_ hk fun b hb=> ?_;simp only[aN_,ak_];rw[aD_ (by rw[hb.2 cr]; rfl),az_ (by simp; omega)];exact hQ _ ⟨fun q=>(by cases q),fun q=>by have:=q.1; omega⟩
 cases hL:p.leaf with
 | true=>
  obtain⟨f,hf⟩:=leafs hL (fun b hb=>hQ b (hb.trans ⟨fun q=>⟨by omega,by rw[hu]; exact cu,cr.1,cr.2,fun _=>q,fun e=>(by rw[hL] at e; cases e)⟩,fun q=>q.2.leaf hL⟩)) _ 0 rfl (kP _) (fun i hi h=>by omega);refine⟨f+1,?_⟩;rw[fm_,aD_ (by rw[cu]; rfl)];refine gw_ hk fun b hb=> ?_;simp only[aN_,ak_];rw[aD_ (by rw[hb.2 cr]; rfl),aD_ (by simp; omega),az_ (by rw[←hl]; exact hL)];exact hf
 | false=>
  obtain⟨f,hf⟩:=inners hL (fun b hb=>hQ b (hb.trans ⟨fun q=>⟨by omega,by rw[hu]; exact cu,cr.1,cr.2,fun e=>(by rw[hL] at e; cases e),fun _=>q⟩,fun q=>q.2.inner hL⟩)) _ 0 rfl (kP _) (fun i hi h=>by omega) (fun i j hj hij h=>by omega);refine⟨f+1,?_⟩;rw[fm_,aD_ (by rw[cu]; rfl)];refine gw_ hk fun b hb=> ?_;simp only[aN_,ak_];rw[aD_ (by rw[hb.2 cr]; rfl),aD_ (by simp; omega),aD_ (by rw[←hl]; exact hL)];exact hf
theorem ry_ (h:jJ_ H u l a1 n1 a2 n2 a3 n3 p) (A:∀ b,(b=true↔fS_ p)→Q (.g (.bool b)) H):
 gG_ [.agg [.bool u,.bool l,.sl a1 n1 1,.sl a2 n2 1,.sl a3 n3 1]] H Q:=⟨1,pW_ (most:=4) (by omega) h fun b C=>A b C⟩
end
end Go.Am
namespace Go.Am
open List
theorem Eg_ {α:Type} {l:List α} {x:α} (h:l[i]? =some x):l.set i x=l:=by
 apply ext_getElem?;grind
def Dj (a b:Pl):Prop:=∀ l,a=some (l,0)→b≠some (l,0)
theorem Dj.symm (h:Dj a b):Dj b a:=fun l r A=>h l A r
theorem Own.lt' (h:Own H b t a n cs) (e:a=some (l,0)):l < H.length:=by subst e; exact h.lt
theorem Own.after (h:Own H b t a n cs) (A:Dj a0 a) (r:Ex H0 a0 H H'):Own H' b t a n cs:=
 h.keep fun l e=>r.row l (h.lt' e) fun C=>A l C e
theorem Dj.fresh {a r:Pl} (h:Own H b t a n cs) (D:∀ l o,r=some (l,o)→H.length≤l):Dj r a:=fun l C A=>by
 have:=D l 0 C; have:=h.lt' A; omega
theorem Own.set (h:Own H b t a n cs) (r:a≠some (l,0)) (x:Obj):Own (H.set l x) b t a n cs:=
 h.keep fun A e=>by grind
structure ew_ (H:Hp) (b:Nat) (u l:Bool) (a1:Pl) (n1:Nat) (a2:Pl) (n2:Nat) (a3:Pl) (n3:Nat) (p:Pg):Prop where
 used:p.used=u
 leaf:p.leaf=l
 keys:Own H b tS a1 n1 (p.keys.map GV.str)
 vals:Own H b tS a2 n2 (p.vals.map GV.str)
 kids:Own H b tI a3 n3 (p.kids.map (GV.int .i64))
 d12:Dj a1 a2
 d13:Dj a1 a3
 d23:Dj a2 a3
 small:n1≤1000∧n2≤1000∧n3≤1000
theorem ew_.at (h:ew_ H b u l a1 n1 a2 n2 a3 n3 p):jJ_ H u l a1 n1 a2 n2 a3 n3 p:=by
 have ⟨D,F,A,C,r,_,_,_,s⟩:=h;refine⟨D,F,⟨A.cells,?_,by omega⟩,⟨C.cells,?_,by omega⟩,⟨r.cells,?_,by omega⟩⟩
 ·have:=A.len; simpa using this.symm
 ·have:=C.len; simpa using this.symm
 ·have:=r.len; simpa using this.symm
theorem Own.mono {H H':Hp} (r:H<+:H') (h:Own H b t a n cs):Own H' b t a n cs:=h.keep fun l e=>br_ r (h.lt' e)
theorem ew_.mono {H H':Hp} (r:H<+:H') (h:ew_ H b u l a1 n1 a2 n2 a3 n3 p):ew_ H' b u l a1 n1 a2 n2 a3 n3 p:=
 ⟨h.used,h.leaf,h.keys.mono r,h.vals.mono r,h.kids.mono r,h.d12,h.d13,h.d23,h.small⟩
def noPg:Pg:=⟨false,false,[],[],[]⟩
theorem EI_ (H:Hp) (b:Nat):ew_ H b false false none 0 none 0 none 0 noPg:=
 ⟨rfl,rfl,.inl ⟨rfl,rfl,rfl⟩,.inl ⟨rfl,rfl,rfl⟩,.inl ⟨rfl,rfl,rfl⟩,fun _ e=>(by simp),fun _ e=>(by simp),fun _ e=>(by simp),by omega⟩
theorem Ci_ (H:Hp):jJ_ H false false none 0 none 0 none 0 noPg:=(EI_ H 0).at
theorem cM_ (h:Q (.g (.int .i64 n)) H):dd_ [.g (.int .i64 n)] H Q:=⟨1,h⟩
theorem vy_ {α:Type} {xs ys:List α} (h:xs.length=ys.length) (C:∀ i,(r:i < xs.length)→(A:i < ys.length)→xs[i]=ys[i]):xs=ys:=ext_getElem h fun i r A=>C i r A
section
variable {H:Hp} {Q:Post} {a1 a2:Pl} {n1 n2:Nat}
theorem iX_ {xs ys:List ByteArray} (h1:Ss H a1 n1 xs) (h2:Ss H a2 n2 ys) (hQ:∀ b,(b=true↔xs=ys)→Q (.g (.bool b)) H):bQ_ [.g (.sl a1 n1 1),.g (.sl a2 n2 1)] H Q:=by
 have e1:=h1.len;have e2:=h2.len;have l1:=h1.lim;by_cases hl:xs.length=ys.length
 ·have loop:∀ f k:Nat,xs.length - k < f→k≤xs.length→(∀ i,(h1:i < xs.length)→(h2:i < ys.length)→i < k→xs[i]=ys[i])→bQ_.l4 f a1 n1 a2 n2 (k:Int) H Q:=by
   intro f;induction f with
   | zero=>intro k hf; omega
   | succ f ih=>
    intro k hf hk he;rw[bQ_.l4_eq];by_cases hkn:k < xs.length
    ·rw[az_ (by simp; omega),ae_,h1.rd k rfl hkn,ae_];have hc:(ltI (k:Int) (nI n1))=(ltI (k:Int) (nI n2)):=by rw[e1,e2,hl]
     rw[h2.rd k rfl (by omega)];by_cases hs:xs[k]=ys[k]
     ·rw[aD_ (by simpa using hs),an_ (by omega)];exact ih (k+1) (by omega) (by omega) fun i q1 q2 hik=>by
       by_cases e:i=k
       ·subst e; exact hs
       ·exact he i q1 q2 (by omega)
     ·rw[az_ (by simpa using hs)];exact hQ _ ⟨fun q=>(by cases q),fun q=>(hs (by simp [q])).elim⟩
    ·rw[aD_ (by simp; omega)];exact hQ _ ⟨fun _=>vy_ hl fun i q1 q2=>he i q1 q2 (by omega),fun _=>rfl⟩
  refine⟨xs.length+2,?_⟩;rw[kp_,aD_ (by simp; omega)];exact loop _ 0 (by omega) (kP _) (fun i _ _ h=>by omega)
 ·refine⟨1,?_⟩;rw[kp_,az_ (by simp; omega)];exact hQ _ ⟨fun q=>(by cases q),fun q=>(hl (by rw[q])).elim⟩
theorem pC_ {xs ys:List Int} (h1:Is H a1 n1 xs) (h2:Is H a2 n2 ys) (hQ:∀ b,(b=true↔xs=ys)→Q (.g (.bool b)) H):b9_ [.g (.sl a1 n1 1),.g (.sl a2 n2 1)] H Q:=by
 have e1:=h1.len;have e2:=h2.len;have l1:=h1.lim;by_cases hl:xs.length=ys.length
 ·have loop:∀ f k:Nat,xs.length - k < f→k≤xs.length→(∀ i,(h1:i < xs.length)→(h2:i < ys.length)→i < k→xs[i]=ys[i])→b9_.l4 f a1 n1 a2 n2 (k:Int) H Q:=by
   intro f;induction f with
   | zero=>intro k hf; omega
   | succ f ih=>
    intro k hf hk he;rw[b9_.l4_eq];by_cases hkn:k < xs.length
    ·rw[az_ (by simp; omega),ae_,h1.rd k rfl hkn,ae_];rw[h2.rd k rfl (by omega)];by_cases hs:xs[k]=ys[k]
     ·rw[aD_ (by simpa using hs),an_ (by omega)];exact ih (k+1) (by omega) (by omega) fun i q1 q2 hik=>by
       by_cases e:i=k
       ·subst e; exact hs
       ·exact he i q1 q2 (by omega)
     ·rw[az_ (by simpa using hs)];exact hQ _ ⟨fun q=>(by cases q),fun q=>(hs (by simp [q])).elim⟩
    ·rw[aD_ (by simp; omega)];exact hQ _ ⟨fun _=>vy_ hl fun i q1 q2=>he i q1 q2 (by omega),fun _=>rfl⟩
  refine⟨xs.length+2,?_⟩;rw[lz_,aD_ (by simp; omega)];exact loop _ 0 (by omega) (kP _) (fun i _ _ h=>by omega)
 ·refine⟨1,?_⟩;rw[lz_,az_ (by simp; omega)];exact hQ _ ⟨fun q=>(by cases q),fun q=>(hl (by rw[q])).elim⟩
end
section
variable {H:Hp} {Q:Post} {u l:Bool} {a1:Pl} {n1:Nat} {a2:Pl} {n2:Nat} {a3:Pl} {n3:Nat} {p:Pg} {u' l':Bool} {a1':Pl} {n1':Nat} {a2':Pl} {n2':Nat} {a3':Pl} {n3':Nat} {q:Pg}
theorem p2_ (r:jJ_ H u l a1 n1 a2 n2 a3 n3 p) (A:jJ_ H u' l' a1' n1' a2' n2' a3' n3' q) (C:∀ b,(b=true↔p=q)→Q (.g (.bool b)) H):
 fd_ [.agg [.bool u,.bool l,.sl a1 n1 1,.sl a2 n2 1,.sl a3 n3 1],.agg [.bool u',.bool l',.sl a1' n1' 1,.sl a2' n2' 1,.sl a3' n3' 1]] H Q:=by
 refine⟨1,?_⟩;rw[si_];refine aa_ (fun G=> ?_) (fun G=>C _ ⟨fun q=>(by grind),fun e=> ?_⟩)
 rotate_left
 ·rw[←r.used,←A.used,e] at G; simp at G
 refine aa_ (fun D=> ?_) (fun D=>C _ ⟨fun q=>(by grind),fun e=> ?_⟩)
 rotate_left
 ·rw[←r.leaf,←A.leaf,e] at D; simp at D
 refine iX_ r.keys A.keys fun W I=>aa_ (fun O=> ?_) (fun O=>C _ ⟨fun q=>(by grind),fun e=> ?_⟩)
 rotate_left
 ·grind
 refine iX_ r.vals A.vals fun Y N=>aa_ (fun J=> ?_) (fun J=>C _ ⟨fun q=>(by grind),fun e=> ?_⟩)
 rotate_left
 ·grind
 refine pC_ r.kids A.kids fun b5 F=>C _ (F.trans ⟨fun e=> ?_,fun e=>by rw[e]⟩);have q3:=r.used;have Z:=r.leaf;have V:=A.used;have U:=A.leaf;cases p; cases q; simp_all
end
theorem Own.wr {H0 H:Hp} (F:H0<+:H) (h:Own H H0.length t a n cs) (k:Nat) {i:Int} (hi:i=k) (O:k < n)
 (I:∀ H',Own H' H0.length t a n (cs.set k v)→Ex H0 a H H'→K H'):chk (leI 0 i&&ltI i (nI n)) (pS a fun C D=>Am.wr H C (D+tN i*1) v K):=by
 subst hi;refine ab_ (by simp_all) ?_;rcases h with⟨_,rfl,_⟩ | ⟨l,rfl,A,r,N⟩
 ·omega
 ·simp [af_];rw[qz_ r (by omega)];refine I _ (.inr ⟨l,rfl,A,kH (kC.1 r).1,by grind⟩) ⟨ej_ F A _,by simp,fun J _ G=> ?_⟩;grind
theorem Ex.trans (h:Ex H0 a H H1) (A:Ex H0 a H1 H2):Ex H0 a H H2:=
 ⟨A.pre,Nat.le_trans h.len A.len,fun l C r=>(A.row l (Nat.lt_of_lt_of_le C h.len) r).trans (h.row l C r)⟩
theorem Ex.refl {H0 H:Hp} (h:H0<+:H):Ex H0 a H H:=⟨h,kO _,fun _ _ _=>rfl⟩
section
variable {H0 H:Hp} {u l:Bool} {a1:Pl} {n1:Nat} {a2:Pl} {n2:Nat} {a3:Pl} {n3:Nat} {p:Pg}
theorem ew_.setKey (h:ew_ H H0.length u l a1 n1 a2 n2 a3 n3 p) (D:H0<+:H) (k:Nat) {i:Int} (hi:i=k) (r:k < n1) (s:ByteArray)
 (F:∀ H',H0<+:H'→ew_ H' H0.length u l a1 n1 a2 n2 a3 n3 { p with keys:=p.keys.set k s }→K H'):chk (leI 0 i&&ltI i (nI n1)) (pS a1 fun A C=>Am.wr H A (C+tN i*1) (.str s) K):=
 h.keys.wr D k hi r fun H' o x=>F H' x.pre ⟨h.used,h.leaf,by simp_all,h.vals.after h.d12 x,h.kids.after h.d13 x,h.d12,h.d13,h.d23,h.small⟩
theorem ew_.setVal (h:ew_ H H0.length u l a1 n1 a2 n2 a3 n3 p) (D:H0<+:H) (k:Nat) {i:Int} (hi:i=k) (r:k < n2) (s:ByteArray)
 (F:∀ H',H0<+:H'→ew_ H' H0.length u l a1 n1 a2 n2 a3 n3 { p with vals:=p.vals.set k s }→K H'):chk (leI 0 i&&ltI i (nI n2)) (pS a2 fun A C=>Am.wr H A (C+tN i*1) (.str s) K):=
 h.vals.wr D k hi r fun H' o x=>F H' x.pre ⟨h.used,h.leaf,h.keys.after h.d12.symm x,by simp_all,h.kids.after h.d23 x,h.d12,h.d13,h.d23,h.small⟩
theorem ew_.addKeys (h:ew_ H H0.length u l a1 n1 a2 n2 a3 n3 p) (C:H0<+:H) (xs:List ByteArray) (D:cs=xs.map GV.str) (A:m=xs.length) (G:n1+m≤1000)
 (F:∀ r H',H0<+:H'→ew_ H' H0.length u l r (n1+m) a2 n2 a3 n3 { p with keys:=p.keys++xs }→K r (n1+m) H'):ap H tS 1 16 a1 n1 cs m K:=by
 subst D; subst A;refine kH_ C h.keys (by simp) (by unfold Lim; omega) fun r H' o x f=>F r H' x.pre ?_;have:=h.small;exact⟨h.used,h.leaf,by grind,h.vals.after h.d12 x,h.kids.after h.d13 x,Dj.fresh h.vals f,Dj.fresh h.kids f,h.d23,by omega⟩
theorem ew_.addVals (h:ew_ H H0.length u l a1 n1 a2 n2 a3 n3 p) (C:H0<+:H) (xs:List ByteArray) (D:cs=xs.map GV.str) (A:m=xs.length) (G:n2+m≤1000)
 (F:∀ r H',H0<+:H'→ew_ H' H0.length u l a1 n1 r (n2+m) a3 n3 { p with vals:=p.vals++xs }→K r (n2+m) H'):ap H tS 1 16 a2 n2 cs m K:=by
 subst D; subst A;refine kH_ C h.vals (by simp) (by unfold Lim; omega) fun r H' o x f=>F r H' x.pre ?_;have:=h.small;exact⟨h.used,h.leaf,h.keys.after h.d12.symm x,by grind,h.kids.after h.d23 x,(Dj.fresh h.keys f).symm,h.d13,Dj.fresh h.kids f,by omega⟩
theorem ew_.addKids (h:ew_ H H0.length u l a1 n1 a2 n2 a3 n3 p) (C:H0<+:H) (xs:List Int) (D:cs=xs.map (GV.int .i64)) (A:m=xs.length) (G:n3+m≤1000)
 (F:∀ r H',H0<+:H'→ew_ H' H0.length u l a1 n1 a2 n2 r (n3+m) { p with kids:=p.kids++xs }→K r (n3+m) H'):ap H tI 1 8 a3 n3 cs m K:=by
 subst D; subst A;refine kH_ C h.kids (by simp) (by unfold Lim; omega) fun r H' o x f=>F r H' x.pre ?_;have:=h.small;exact⟨h.used,h.leaf,h.keys.after h.d13.symm x,h.vals.after h.d23.symm x,by grind,h.d12,(Dj.fresh h.keys f).symm,(Dj.fresh h.vals f).symm,by omega⟩
end
end Go.Am
namespace Go.Am
open List
def kN_ (H:Hp) (lo hi:Nat) (t:TypeId) (a:Pl) (n:Nat) (cs:List GV):Prop:=
 (a=none∧n=0∧cs=[])∨∃ l o ds,a=some (l,o)∧lo≤l∧l < hi∧H[l]? =some (.row true t ds)∧o+n≤ds.length∧(ds.drop o).take n=cs
def Dr (a b:Pl):Prop:=∀ l o o',a=some (l,o)→b≠some (l,o')
structure Ch (lo hi:Nat) (H H':Hp):Prop where
 len:H.length≤H'.length
 row:∀ l,l < H.length→ ¬ (lo≤l∧l < hi)→H'[l]? =H[l]?
theorem Ch.trans (h:Ch lo hi H H1) (C:Ch lo hi H1 H2):Ch lo hi H H2:=
 ⟨Nat.le_trans h.len C.len,fun l r A=>(C.row l (Nat.lt_of_lt_of_le r h.len) A).trans (h.row l r A)⟩
theorem Ch.refl (lo hi:Nat) (H:Hp):Ch lo hi H H:=⟨kO _,fun _ _ _=>rfl⟩
theorem Ch.of_pre {H H':Hp} (h:H<+:H'):Ch lo hi H H':=⟨h.length_le,fun l r _=>br_ h r⟩
theorem Ch.pre {H0 H H':Hp} (h:Ch lo hi H H') (r:H0<+:H) (A:H0.length≤lo):H0<+:H':=by
 rw[prefix_iff_eq_take];apply ext_getElem?;intro i;rw[getElem?_take];split
 ·rename_i hi;rw[h.row i (Nat.lt_of_lt_of_le hi r.length_le) (by omega),br_ r hi]
 ·grind
section
variable {H H':Hp} {lo hi:Nat} {t:TypeId} {a:Pl} {n:Nat} {cs:List GV}
theorem kN_.keep (h:kN_ H lo hi t a n cs) (G:∀ l o,a=some (l,o)→H'[l]? =H[l]?):kN_ H' lo hi t a n cs:=by
 rcases h with h | ⟨l,o,C,rfl,A,F,I,D,r⟩
 ·exact .inl h
 ·exact .inr ⟨l,o,C,rfl,A,F,by grind,D,r⟩
theorem kN_.lt (h:kN_ H lo hi t a n cs) (e:a=some (l,o)):l < H.length∧lo≤l∧l < hi:=by
 rcases h with⟨h,_⟩ | ⟨r,G,D,C,A,I,F,_⟩
 ·grind
 ·grind
theorem kN_.mono (h:kN_ H lo hi t a n cs) (r:H<+:H'):kN_ H' lo hi t a n cs:=h.keep fun l o e=>br_ r (h.lt e).1
theorem kN_.cells (h:kN_ H lo hi t a n cs):cells? H a n=some cs:=by
 rcases h with⟨rfl,rfl,rfl⟩ | ⟨l,o,F,rfl,D,G,C,A,r⟩
 ·rfl
 ·simp only[cells?,C]; rw[if_pos A,r]
theorem kN_.len (h:kN_ H lo hi t a n cs):cs.length=n:=Di_ h.cells
theorem kN_.part (h:kN_ H lo hi t a n cs) (k m:Nat) (G:k+m≤n):kN_ H lo hi t (shf a k) m ((cs.drop k).take m):=by
 rcases h with⟨rfl,rfl,rfl⟩ | ⟨l,o,D,rfl,C,F,A,I,r⟩
 ·exact .inl ⟨rfl,by omega,by simp⟩
 ·refine .inr ⟨l,o+k,D,rfl,C,F,A,by omega,?_⟩;rw[←r,drop_take,take_take,drop_drop,Nat.min_eq_left (by omega)]
theorem Dr.shf (h:Dr a b) (k m:Nat):Dr (shf a k) (shf b m):=by
 intro l o G r A;cases a with
 | none=>cases r
 | some p=>
  cases b with
  | none=>cases A
  | some q=>
   have ⟨I,C⟩:=p;have ⟨F,D⟩:=q;simp at r A;exact h l C D (by grind) (by grind)
theorem kN_.wr (h:kN_ H lo hi t a n cs) (k:Nat) {i:Int} (A:i=k) (Y:k < n)
 (N:∀ H',kN_ H' lo hi t a n (cs.set k v)→Ch lo hi H H'→(∀ l,l < H.length→(∀ o,a≠some (l,o))→H'[l]? =H[l]?)→K H'):chk (leI 0 i&&ltI i (nI n)) (pS a fun O F=>Am.wr H O (F+tN i*1) v K):=by
 subst A;refine ab_ (by simp_all) ?_;rcases h with⟨_,rfl,_⟩ | ⟨l,o,V,rfl,D,G,C,W,U⟩
 ·omega
 ·simp [af_];rw[qz_ C (by omega)];have J:=(kC.1 C).1;refine N _ (.inr ⟨l,o,_,rfl,D,G,kH J,by grind,?_⟩) ⟨by simp,fun I _ r=> ?_⟩ (fun I _ r=> ?_)
  ·rw[←U,drop_set,if_neg (by omega),take_set,show o+k - o=k by omega]
  ·grind
  ·grind
end
structure PgM (H:Hp) (lo hi:Nat) (u l:Bool) (a1:Pl) (n1:Nat) (a2:Pl) (n2:Nat) (a3:Pl) (n3:Nat) (p:Pg):Prop where
 used:p.used=u
 leaf:p.leaf=l
 keys:kN_ H lo hi tS a1 n1 (p.keys.map GV.str)
 vals:kN_ H lo hi tS a2 n2 (p.vals.map GV.str)
 kids:kN_ H lo hi tI a3 n3 (p.kids.map (GV.int .i64))
 d12:Dr a1 a2
 d13:Dr a1 a3
 d23:Dr a2 a3
 small:n1≤1000∧n2≤1000∧n3≤1000
section
variable {H H':Hp} {lo hi:Nat} {u l:Bool} {a1:Pl} {n1:Nat} {a2:Pl} {n2:Nat} {a3:Pl} {n3:Nat} {p:Pg}
theorem PgM.at (h:PgM H lo hi u l a1 n1 a2 n2 a3 n3 p):jJ_ H u l a1 n1 a2 n2 a3 n3 p:=by
 have ⟨D,F,C,A,r,_,_,_,s⟩:=h;refine⟨D,F,⟨C.cells,?_,by omega⟩,⟨A.cells,?_,by omega⟩,⟨r.cells,?_,by omega⟩⟩
 ·have:=C.len; simpa using this.symm
 ·have:=A.len; simpa using this.symm
 ·have:=r.len; simpa using this.symm
theorem PgM.mono (h:PgM H lo hi u l a1 n1 a2 n2 a3 n3 p) (r:H<+:H'):PgM H' lo hi u l a1 n1 a2 n2 a3 n3 p:=
 ⟨h.used,h.leaf,h.keys.mono r,h.vals.mono r,h.kids.mono r,h.d12,h.d13,h.d23,h.small⟩
theorem Own.dr (h:Own H b t a n cs) (D:Own H b t' a' n' cs') (C:Dj a a'):Dr a a':=by
 intro l o G e A;rcases h with⟨q,_⟩ | ⟨m,q,_⟩
 ·grind
 ·rcases D with⟨r,_⟩ | ⟨F,r,_⟩
  ·grind
  ·rw[q] at e; rw[r] at A;cases e; cases A;exact C l q r
end
end Go.Am
namespace Go.Am
structure PC where
 u:Bool
 l:Bool
 a1:Pl
 n1:Nat
 a2:Pl
 n2:Nat
 a3:Pl
 n3:Nat
def PC.cells (c:PC):List GV:=[.bool c.u,.bool c.l,.sl c.a1 c.n1 1,.sl c.a2 c.n2 1,.sl c.a3 c.n3 1]
@[simp] theorem PC.cells_length (c:PC):c.cells.length=5:=rfl
def PC.at (H:Hp) (c:PC) (p:Pg):Prop:=jJ_ H c.u c.l c.a1 c.n1 c.a2 c.n2 c.a3 c.n3 p
theorem PC.at.mono {H H':Hp} (r:H<+:H') {c:PC} (h:c.at H p):c.at H' p:=jJ_.mono r h
def bD_ (cs:List PC):List GV:=cs.flatMap PC.cells
theorem ck_ (cs:List PC):(bD_ cs).length=cs.length*5:=by
 unfold bD_;induction cs with
 | nil=>rfl
 | cons c cs h=>simp [h]; omega
theorem pi_ (cs h:List PC):bD_ (cs++h)=bD_ cs++bD_ h:=by simp [bD_]
theorem jx_ (hi:i < cs.length) (r:j < 5):(bD_ cs)[i*5+j]? =(cs[i].cells)[j]? :=by
 unfold bD_;induction cs generalizing i with
 | nil=>simp at hi
 | cons c cs h=>
  simp;cases i with
  | zero=>rw[kM (by simp_all)]; simp
  | succ i=>
   rw[List.getElem?_append_right (by simp; omega)];have e:(i+1)*5+j - c.cells.length=i*5+j:=by simp; omega
   grind
structure Tr (H:Hp) (a:Pl) (n:Nat) (cs:List PC) (T:List Pg):Prop where
 cells:cells? H a (n*5)=some (bD_ cs)
 len:cs.length=n
 lenT:T.length=n
 all:∀ i (h:i < cs.length) (h':i < T.length),(cs[i]).at H T[i]
theorem Tr.mono {H H':Hp} (r:H<+:H') (h:Tr H a n cs T):Tr H' a n cs T:=⟨l3_ r h.cells,h.len,h.lenT,fun i C A=>(h.all i C A).mono r⟩
theorem Tr.get (h:Tr H a n cs T) (hi:i < n):∃ l o c p,a=some (l,o)∧cs[i]? =some c∧T[i]? =some p∧c.at H p∧
 gt H l (o+i*5)=some (.bool c.u)∧gt H l (o+i*5+1)=some (.bool c.l)∧gt H l (o+i*5+2)=some (.sl c.a1 c.n1 1)∧gt H l (o+i*5+3)=some (.sl c.a2 c.n2 1)∧gt H l (o+i*5+4)=some (.sl c.a3 c.n3 1):=by
 have F:=h.len;have D:=h.lenT;have A:=h.cells;cases a with
 | none=>simp [cells?] at A; omega
 | some q=>
  have ⟨l,o⟩:=q;have r:∀ j,j < 5→gt H l (o+i*5+j)=((cs[i]'(by omega)).cells)[j]? :=by
   intro j C;have:=jk_ A (j:=i*5+j) (by omega);rw[←Nat.add_assoc] at this;rw[this,jx_ (by omega) C]
  exact⟨l,o,cs[i]'(by omega),T[i]'(by omega),rfl,by simp,by simp,h.all i (by omega) (by omega),r 0 (by omega),r 1 (by omega),r 2 (by omega),r 3 (by omega),r 4 (by omega)⟩
theorem cD_ {c:PC} {K:Bool→Bool→Pl→Nat→Pl→Nat→Pl→Nat→Prop} (Y:gt H l j=some (.bool c.u)) (C:gt H l (j+1)=some (.bool c.l)) (r:gt H l (j+2)=some (.sl c.a1 c.n1 1)) (h3:gt H l (j+3)=some (.sl c.a2 c.n2 1)) (J:gt H l (j+4)=some (.sl c.a3 c.n3 1)):
 (rd H l j fun v0=>dB v0 fun A=>rd H l (j+1) fun F=>dB F fun N=>rd H l (j+1+1) fun I=>dL 1 I fun Z n2=>rd H l (j+1+1+1) fun W=>dL 1 W fun D O=>rd H l (j+1+1+1+1) fun V=>dL 1 V fun U G=>K A N Z n2 D O U G)=K c.u c.l c.a1 c.n1 c.a2 c.n2 c.a3 c.n3:=by
 rw[ad_ Y,ak_,ad_ C,ak_,ad_ r,ah_,ad_ h3,ah_,ad_ J,ah_]
end Go.Am
section
namespace Go.Am
open List
open Go.RowKit Go.ChangeShapes Go.WideShapes Go.Proofs
theorem wi_ (F:P.underlying t=some (.struct fs)) (h:Value.okWide P W r b t v):∃ A:Array Value,v= .agg A∧∀ x∈A.toList,Zc W x:=by
 unfold Value.okWide at h;rw[F] at h;obtain⟨A,rfl,_,J,_,_,I⟩:=h;refine⟨A,rfl,fun x D=> ?_⟩;obtain⟨i,N,rfl⟩:=kK D;have ⟨u,_,G⟩:=I i A[i] (by simp);exact Ev_ G
section
variable {Hh:Type} {enc:TypeId × Value→Hh} {W:World} {held:Bool}
set_option maxRecDepth 100000 in
theorem GA_ {fuel:Nat} {cs:List Value} {x:DataW Hh × List MemPlace} (h:DataW.trod enc Tryz.prog W 0 (fun _=>true) held fuel 62 cs=some x) (hz:∀ v∈cs,Zc W v) (hw:(DataW.weights Tryz.prog 62 x.1).all (· ≤reachBytes)=true)
 {φ:List LI} {H:Hp} (hr:cE_ φ H W) (hn:iq_ H):
 ∃ φ' H' u l a1 n1 a2 n2 a3 n3 p,φ<+:φ'∧H<+:H'∧cE_ φ' H' W∧iq_ H'∧Is2 φ' [.bool u,.bool l,.sl a1 n1 1,.sl a2 n2 1,.sl a3 n3 1] cs∧jJ_ H' u l a1 n1 a2 n2 a3 n3 p:=by
 obtain⟨xs,n,rfl,rfl,hlen,hxs,hf⟩:=DataW.trod_struct Tryz.underlying62 h;have h5:Tryz.prog.cellsOf 62=5:=by kernel_rfl
 have cB:Tryz.prog.cellsOf 4=1:=by kernel_rfl
 have c22:Tryz.prog.cellsOf 59=1:=by kernel_rfl
 have c23:Tryz.prog.cellsOf 60=1:=by kernel_rfl
 rw[h5] at hlen
 match cs,hlen with
 | [v0,v1,v2,v3,v4],_=>
  have f0:DataW.trod enc Tryz.prog W 0 (fun _=>true) held n 4 (([v0,v1,v2,v3,v4].drop 0).take (Tryz.prog.cellsOf 4))=xs[0]? :=hf 0 _ rfl;have f1:DataW.trod enc Tryz.prog W 0 (fun _=>true) held n 4 (([v0,v1,v2,v3,v4].drop 1).take (Tryz.prog.cellsOf 4))=xs[1]? :=hf 1 _ rfl;have f2:DataW.trod enc Tryz.prog W 0 (fun _=>true) held n 59 (([v0,v1,v2,v3,v4].drop 2).take (Tryz.prog.cellsOf 59))=xs[2]? :=hf 2 _ rfl;have f3:DataW.trod enc Tryz.prog W 0 (fun _=>true) held n 59 (([v0,v1,v2,v3,v4].drop 3).take (Tryz.prog.cellsOf 59))=xs[3]? :=hf 3 _ rfl;have f4:DataW.trod enc Tryz.prog W 0 (fun _=>true) held n 60 (([v0,v1,v2,v3,v4].drop 4).take (Tryz.prog.cellsOf 60))=xs[4]? :=hf 4 _ rfl;simp only[cB,c22,c23,drop_zero,drop_succ_cons,take_succ_cons,take_zero] at f0 f1 f2 f3 f4
  match xs,hxs with
  | [x0,x1,x2,x3,x4],_=>
   simp only[getElem?_cons_zero,getElem?_cons_succ] at f0 f1 f2 f3 f4;simp only[map_cons,map_nil,DataW.weights,Tryz.underlying62] at hw;obtain⟨u,e0,_⟩:=DataW.trod_bool Tryz.underlying4 f0;obtain⟨l,e1,_⟩:=DataW.trod_bool Tryz.underlying4 f1;simp only[List.cons.injEq,and_true] at e0 e1;subst e0; subst e1;obtain⟨φ1,H1,a1,n1,ks,w2,e2,p1,q1,r1,o1,i1,s1⟩:=vN_ Tryz.underlying59 Tryz.underlying9 (by kernel_rfl) (by kernel_rfl) f2 (fun v hv=>hz v (by simp at hv; simp [hv])) (hF_ hw (j:=2) rfl rfl) hr hn;obtain⟨φ2,H2,a2,n2,vs,w3,e3,p2,q2,r2,o2,i2,s2⟩:=vN_ Tryz.underlying59 Tryz.underlying9 (by kernel_rfl) (by kernel_rfl) f3 (fun v hv=>hz v (by simp at hv; simp [hv])) (hF_ hw (j:=3) rfl rfl) r1 o1;obtain⟨φ3,H3,a3,n3,is,w4,e4,p3,q3,r3,o3,i3,s3⟩:=Dz_ Tryz.underlying60 Tryz.underlying3 (by kernel_rfl) (by kernel_rfl) f4 (fun v hv=>hz v (by simp at hv; simp [hv])) (hF_ hw (j:=4) rfl rfl) r2 o2;simp only[List.cons.injEq,and_true] at e2 e3 e4;subst e2; subst e3; subst e4;exact⟨φ3,H3,u,l,a1,n1,a2,n2,a3,n3,⟨u,l,ks,vs,is⟩,p1.trans (p2.trans p3),q1.trans (q2.trans q3),r3,o3,
    .cons rfl (.cons rfl (.cons (GV.is.mono (p2.trans p3) i1) (.cons (GV.is.mono p3 i2) (.cons i3 .nil)))),⟨rfl,rfl,s1.mono (q2.trans q3),s2.mono q3,s3⟩⟩
theorem tF_:∀ {D:List (DataW Hh)},(DataW.weightsAll P e D).all (· ≤reachBytes)=true→∀ {i:Nat} {d:DataW Hh},D[i]? =some d→(DataW.weights P e d).all (· ≤reachBytes)=true
 | [],_,i,d,h=>by grind
 | d0::r,A,0,d,h=>by
  simp [DataW.weightsAll] at A;grind
 | d0::r,A,i+1,d,h=>by
  simp only[DataW.weightsAll,all_append,kR] at A;exact tF_ A.2 h
theorem Is2.get (h:Is2 φ cs vs) {j:Nat} (r:cs[j]? =some v):∃ x,vs[j]? =some x∧v.is φ x:=cm_.get h r
set_option maxRecDepth 100000 in
theorem Bo_ {fuel:Nat} {cs:List Value} {x:DataW Hh × List MemPlace} (h:DataW.trod enc Tryz.prog W 0 (fun _=>true) held fuel 22 cs=some x) (hz:∀ v∈cs,Zc W v) (hw:(DataW.weights Tryz.prog 22 x.1).all (· ≤reachBytes)=true)
 {φ:List LI} {H:Hp} (hr:cE_ φ H W) (hn:iq_ H):
 ∃ φ' H' a n ps T v,cs=[v]∧φ<+:φ'∧H<+:H'∧cE_ φ' H' W∧iq_ H'∧GV.is φ' (.sl a n 5) v∧Tr H' a n ps T∧n*80≤140737488351232:=by
 have h5:Tryz.prog.cellsOf 62=5:=by kernel_rfl
 rcases DataW.trod_slice Tryz.underlying22 h with⟨rfl,rfl⟩ | ⟨a,len,cap,elems,rest,n,rfl,rfl,rfl,_,hl,hcap,hel,hi,hrest,_⟩
 ·exact⟨φ,H,none,0,[],[],_,rfl,prefix_refl _,prefix_refl _,hr,hn,⟨rfl,rfl⟩,⟨rfl,rfl,rfl,fun i h1=>(by simp at h1)⟩,by omega⟩
 rw[h5] at hi hrest;obtain⟨hrl,hrj⟩:=hrest rfl;simp only[DataW.weights,Tryz.underlying22] at hw;rw[all_cons,all_append,kR,kR] at hw;obtain⟨hw0,hw1,_⟩:=hw;have hpos:0 < W.heap.size:=hz (.slice (some a) len cap) (mem_singleton.2 rfl) _ _ _ rfl;have hsp:0 < cap→a.spot=none∧a.block < W.heap.size:=by
  intro h0;have hb:∃ cs0,W.cells? 0 (a.add 0) 5=some cs0:=by
   rcases Nat.eq_zero_or_pos len with e | e
   ·have:=hrj 0 (by omega);rw[e] at this;simp only[kN,Nat.zero_mul] at this;rw[kG (by omega)] at this;cases hc:W.cells? 0 (a.add 0) 5 with
    | none=>rw[hc] at this; cases this
    | some c=>exact⟨c,rfl⟩
   ·have:=hi 0 e;simp only[Nat.zero_mul] at this;rw[kG (by omega)] at this;cases hc:W.cells? 0 (a.add 0) 5 with
    | none=>rw[hc] at this; cases this
    | some c=>exact⟨c,rfl⟩
  obtain⟨c0,hc0⟩:=hb;obtain⟨_,hlen,hget⟩:=World.cells?_some hc0;have:=hget 0 (by omega);rw[kG (by omega)] at this;have:=y8_ this;simpa [Addr.add] using this
 have key:∀ k,k≤len→∃ (φ':List LI) (H':Hp) (ps:List PC) (T:List Pg),φ<+:φ'∧H<+:H'∧cE_ φ' H' W∧iq_ H'∧ps.length=k∧T.length=k∧(∀ i (h:i < ps.length) (h':i < T.length),(ps[i]).at H' T[i])∧
  ∀ j v,(bD_ ps)[j]? =some v→∃ x,W.cell? (a.add j)=some x∧v.is φ' x:=by
  intro k;induction k with
  | zero=>intro _; exact⟨φ,H,[],[],prefix_refl _,prefix_refl _,hr,hn,rfl,rfl,fun i h1=>(by simp at h1),fun j v hj=>(by simp [bD_] at hj)⟩
  | succ k ih=>
   intro hk;obtain⟨φ1,H1,ps,T,e1,g1,r1,n1,l1,l2,at1,c1⟩:=ih (by omega);have hik:=hi k (by omega);have hel':k < elems.length:=by omega
   rw[kG hel'] at hik;cases hc:W.cells? 0 (a.add (k*5)) 5 with
   | none=>rw[hc] at hik; cases hik
   | some ck=>
    rw[hc] at hik;obtain⟨_,hlen,hget⟩:=World.cells?_some hc;obtain⟨φ2,H2,u,l,a1,n1',a2,n2,a3,n3,p,e2,g2,r2,n2',is2,at2⟩:=GA_ (x:=elems[k]) hik (fun v hv=>by intro _ _ _ _; exact hpos) (tF_ hw1 (i:=k) (by rw[getElem?_map,kG hel']; rfl)) r1 n1;obtain⟨hs,hb⟩:=hsp (by omega);refine⟨φ2,H2,ps++[⟨u,l,a1,n1',a2,n2,a3,n3⟩],T++[p],e1.trans e2,g1.trans g2,r2,n2',by simp [l1],by simp [l2],?_,?_⟩
    ·intro i h1 h2;rw[getElem_append,getElem_append];by_cases e:i < k
     ·rw[dif_pos (by omega),dif_pos (by omega)];exact (at1 i (by omega) (by omega)).mono g2
     ·rw[dif_neg (by omega),dif_neg (by omega)];simpa [PC.at] using at2
    ·intro j v hj;rw[pi_] at hj;rcases Nat.lt_or_ge j (k*5) with q | q
     ·rw[kM (by rw[ck_]; omega)] at hj;obtain⟨x,x1,x2⟩:=c1 j v hj;exact⟨x,x1,GV.is.mono e2 x2⟩
     ·rw[getElem?_append_right (by rw[ck_]; omega),ck_,l1] at hj;have hj5:j - k*5 < 5:=by have:=(kC.1 hj).1; simpa [bD_] using this
      obtain⟨x,hx,hvx⟩:=Is2.get is2 (j:=j - k*5) (v:=v) (by simpa [bD_,PC.cells] using hj);refine⟨x,?_,hvx⟩;have:=hget (j - k*5) hj5;rw[hx] at this;rw[←this,mU_ hs,mU_ hs];rw[mU_ rfl];congr 2;show a.off+j=a.off+k*5+(j - k*5);omega
 obtain⟨φ1,H1,ps,T,e1,g1,r1,n1,l1,l2,at1,c1⟩:=key len (kO _);obtain⟨φ2,H2,p,e2,g2,r2,n2,i2,s2⟩:=wr_ (z:=5) r1 n1 hl hpos hsp (bD_ ps) (by rw[ck_,l1]) c1;refine⟨φ2,H2,p,len,ps,T,_,rfl,e1.trans e2,g1.trans g2,r2,n2,i2,⟨s2,l1,l2,fun i h1 h2=>(at1 i h1 h2).mono g2⟩,?_⟩;have hb:Tryz.prog.bytesOf 62=80:=by kernel_rfl
 simp only[decide_eq_true_eq,length_map,hb,hel] at hw0;unfold reachBytes at hw0;omega
set_option maxRecDepth 100000 in
theorem lc_ {fuel:Nat} {cs:List Value} {x:DataW Hh × List MemPlace} (h:DataW.trod enc Tryz.prog W 0 (fun _=>true) held fuel 24 cs=some x) (hz:∀ v∈cs,Zc W v) (hw:(DataW.weights Tryz.prog 24 x.1).all (· ≤reachBytes)=true)
 {φ:List LI} {H:Hp} (hr:cE_ φ H W) (hn:iq_ H):
 ∃ φ' H' a n ps T,φ<+:φ'∧H<+:H'∧cE_ φ' H' W∧iq_ H'∧Is2 φ' [.sl a n 5] cs∧Tr H' a n ps T∧n*80≤140737488351232:=by
 obtain⟨xs,n,rfl,rfl,hlen,hxs,hf⟩:=DataW.trod_struct Tryz.underlying24 h;have h1:Tryz.prog.cellsOf 24=1:=by kernel_rfl
 have c1:Tryz.prog.cellsOf 22=1:=by kernel_rfl
 rw[h1] at hlen
 match cs,hlen with
 | [v0],_=>
  have f0:DataW.trod enc Tryz.prog W 0 (fun _=>true) held n 22 (([v0].drop 0).take (Tryz.prog.cellsOf 22))=xs[0]? :=hf 0 _ rfl;simp only[c1,drop_zero,take_succ_cons,take_zero] at f0
  match xs,hxs with
  | [x0],_=>
   simp only[getElem?_cons_zero] at f0;simp only[map_cons,map_nil,DataW.weights,Tryz.underlying24] at hw;obtain⟨φ1,H1,a,m,ps,T,v,e,p1,q1,r1,o1,i1,s1,b1⟩:=Bo_ f0 (fun v hv=>hz v hv) (hF_ hw (j:=0) rfl rfl) hr hn;simp only[List.cons.injEq,and_true] at e;subst e;exact⟨φ1,H1,a,m,ps,T,p1,q1,r1,o1,.cons i1 .nil,s1,b1⟩
end
end Go.Am
end
namespace Go.Am
open List
structure dO_ {α β:Type} (ek:α→RV) (ev:β→RV) (H:Hp) (l:Nat) (ps:List (α × β)):Prop where
 ex:∃ es c,H[l]? =some (.map es c)∧es.map (fun e=>(e.2.1,e.2.2))=ps.map (fun p=>(ek p.1,ev p.2))∧(∀ e∈es,e.1 < c)∧(es.map (·.1)).Nodup
 nodup:(ps.map (·.1)).Nodup
structure vP_ {α:Type} (ag:Bool) (lv:List LK) (ek:α→RV):Prop where
 fit:∀ a,ne_ ag lv (ek a)=true
 inj:∀ a b,ek a=ek b→a=b
theorem BX_ (h:ne_ ag lv k=true) (r:ne_ ag lv k'=true):∃ e,lu_ k.cells k'.cells=some e∧(e=true↔k=k'):=by
 cases ag with
 | false=>
  cases k with
  | a _=>cases h
  | s v=>cases k' with
   | a _=>cases r
   | s G=>
    have ⟨e,C,A⟩:=jg_ h r
    exact⟨e,C,A.trans ⟨fun q=>by grind,fun q=>by cases q; rfl⟩⟩
 | true=>
  cases k with
  | s _=>cases h
  | a F=>cases k' with
   | s _=>cases r
   | a D=>
    have ⟨e,C,A⟩:=jg_ h r
    exact⟨e,C,A.trans ⟨fun q=>by grind,fun q=>by cases q; rfl⟩⟩
section
variable {α β:Type} [DecidableEq α] {ek:α→RV} {ev:β→RV} {ag:Bool} {lv:List LK} {H:Hp} {l:Nat} {ps:List (α × β)}
def look (ps:List (α × β)) (k:α):Option β:=(ps.find? fun p=>decide (p.1=k)).map (·.2)
def gi_ (ps:List (α × β)) (k:α) (v:β):List (α × β):=match look ps k with
 | some _=>ps.map fun p=>if p.1=k then (k,v) else p
 | none=>ps++[(k,v)]
theorem yc_ (ok:vP_ ag lv ek) (k:α):∀ {es:List Ent} {ps:List (α × β)} (i:Nat),es.map (fun e=>(e.2.1,e.2.2))=ps.map (fun p=>(ek p.1,ev p.2))→
 (look ps k=none∧ow_ ag lv (ek k) es i=some none∧∀ p∈ps,p.1≠k)∨∃ j v,look ps k=some v∧ow_ ag lv (ek k) es i=some (some (i+j))∧ps[j]? =some (k,v)
 | [],[],i,_=> .inl ⟨rfl,rfl,by simp⟩
 | [],_::_,_,h=>by grind
 | _::_,[],_,h=>by grind
 | e::es,p::ps,i,h=>by
  simp [map_cons] at h;have ⟨⟨I,U⟩,h3⟩:=h;have ⟨q,G,D⟩:=BX_ (ok.fit k) (ok.fit p.1);by_cases r:p.1=k
  ·right;refine⟨0,p.2,by simp [look,r],?_,by simp [←r]⟩;have:=D.2 (by grind);subst this;simp [ow_,I,ok.fit,G]
  ·have A:q=false:=by
    cases q with
    | false=>rfl
    | true=>exact absurd (ok.inj _ _ (D.1 rfl)).symm r
   subst A;have O:look (p::ps) k=look ps k:=by simp [look,r]
   have J:ow_ ag lv (ek k) (e::es) i=ow_ ag lv (ek k) es (i+1):=by simp [ow_,I,ok.fit,G]
   rcases yc_ ok k (i+1) h3 with⟨N,C,F⟩ | ⟨j,v,N,C,F⟩
   ·grind
   ·exact .inr ⟨j+1,v,by grind,by rw[J,C]; congr 2; omega,F⟩
end
section
variable {α β:Type} {ek:α→RV} {ev:β→RV} {ag:Bool} {lv:List LK} {H:Hp} {l:Nat} {ps:List (α × β)}
theorem Hg_ {es:List Ent} (h:es.map (fun e=>(e.2.1,e.2.2))=ps.map (fun p=>(ek p.1,ev p.2))) {j:Nat} (A:ps[j]? =some (k,v)):∃ e,es[j]? =some e∧e.2.1=ek k∧e.2.2=ev v:=by
 have:=congrArg (fun l:List (RV × RV)=>l[j]?) h;simp only[getElem?_map,A] at this;cases r:es[j]? with
 | none=>rw[r] at this; simp at this
 | some e=>rw[r] at this; simp at this; exact⟨e,rfl,this.1,this.2⟩
end
section
variable {α β:Type} [DecidableEq α] {ek:α→RV} {ev:β→RV} {ag:Bool} {lv:List LK} {H:Hp} {l:Nat} {ps:List (α × β)}
theorem hl_ (ok:vP_ ag lv ek) (h:dO_ ek ev H l ps) (k:α) (I:∀ v,look ps k=some v→K (ev v) true) (N:look ps k=none→K z false):tX_ H (some l) ag lv (ek k) z K:=by
 have ⟨F,c,U,r,_,_⟩:=h.ex;unfold tX_;rcases yc_ ok k 0 r with⟨D,A,_⟩ | ⟨j,v,D,A,C⟩
 ·grind
 ·have ⟨e,G,J,O⟩:=Hg_ r C;grind
end
section
variable {α β:Type} {ek:α→RV} {ev:β→RV} {ag:Bool} {lv:List LK} {H:Hp} {l:Nat} {ps:List (α × β)}
theorem lJ_ (h:dO_ ek ev H l ps) (C:K ps.length):oV_ H (some l) K:=by
 have ⟨A,c,D,r,_,_⟩:=h.ex;unfold oV_;have:=congrArg length r;grind
end
section
variable {α β:Type} [DecidableEq α] {ek:α→RV} {ev:β→RV} {ag:Bool} {lv:List LK} {H:Hp} {l:Nat} {ps:List (α × β)}
theorem dr_ (h:look ps k=some v):(k,v)∈ps:=by
 unfold look at h;cases r:ps.find? fun p=>decide (p.1=k) with
 | none=>rw[r] at h; cases h
 | some p=>
  grind
theorem n2_ (h:look ps k=none):∀ p∈ps,p.1≠k:=by
 unfold look at h;rw[Option.map_eq_none_iff,find?_eq_none] at h;grind
theorem n4_ (k:α) (v:β):(gi_ ps k v).map (·.1)=match look ps k with | some _=>ps.map (·.1) | none=>ps.map (·.1)++[k]:=by
 unfold gi_;cases look ps k with
 | none=>simp
 | some _=>
  simp only[map_map];apply map_congr_left;grind
theorem kk_ (ok:vP_ ag lv N) (h:dO_ N ev H l ps) (k:α) (v:β) {K:Hp→Prop} (hK:∀ H',H'.length=H.length→(∀ G,G≠l→H'[G]? =H[G]?)→dO_ N ev H' l (gi_ ps k v)→K H'):yn_ H (some l) ag lv (N k) (ev v) K:=by
 have ⟨es,c,hm,O,hb,hn⟩:=h.ex;have F:=(kC.1 hm).1;unfold yn_;simp [hm];rcases yc_ ok k 0 O with⟨I,V,D⟩ | ⟨j,v0,I,V,D⟩
 ·rw[V];refine hK _ (by simp) (fun G U=>by rw[kF (Ne.symm U)]) ⟨⟨es++[(c,N k,ev v)],c+1,by rw[kH F],?_,?_,?_⟩,?_⟩
  ·unfold gi_; rw[I]; simp [O]
  ·grind
  ·rw[kL,nodup_append];refine⟨hn,by simp,fun a Z b r q=> ?_⟩;simp at r;have ⟨e,Y,A⟩:=mem_map.1 Z;have:=hb e Y; omega
  ·rw[n4_,I,nodup_append];refine⟨h.nodup,by simp,fun a Z b r q=> ?_⟩;simp at r;subst q; subst r;have ⟨p,hp,A⟩:=mem_map.1 Z;exact D p hp A
 ·rw[V];have ⟨e,J,A,e3⟩:=Hg_ O D;simp [J];refine hK _ (by simp) (fun G U=>by rw[kF (Ne.symm U)]) ⟨⟨es.set j (e.1,e.2.1,ev v),c,by rw[kH F],?_,?_,?_⟩,?_⟩
  ·have W:gi_ ps k v=ps.set j (k,v):=by
    unfold gi_; rw[I];apply ext_getElem?;intro n;rw[getElem?_map,getElem?_set];by_cases C:j=n
    ·subst C;rw[D]; simp [(kC.1 D).1]
    ·rw[if_neg C];cases hx:ps[n]? with
     | none=>rfl
     | some p=>
      have hpk:p.1≠k:=fun q=>by
       have hj1:(ps.map (·.1))[j]? =some k:=by rw[getElem?_map,D]; rfl
       have hn1:(ps.map (·.1))[n]? =some k:=by rw[getElem?_map,hx,Option.map_some,q]
       have ⟨l1,J⟩:=kC.1 hj1;obtain⟨l2,A⟩:=kC.1 hn1;rcases Nat.lt_or_gt_of_ne C with g | g
       ·exact pairwise_iff_getElem.1 h.nodup j n l1 l2 g (by rw[J,A])
       ·exact pairwise_iff_getElem.1 h.nodup n j l2 l1 g (by rw[J,A])
      simp [hpk]
   rw[W,List.map_set,List.map_set,O,A]
  ·intro x hx;rcases mem_or_eq_of_mem_set hx with q | q
   ·exact hb x q
   ·rw[q]; exact hb e (mem_of_getElem? J)
  ·rw[List.map_set];grind
  ·rw[n4_,I]; exact h.nodup
end
end Go.Am
namespace Go.Am
open List
structure e3_ {α β:Type} (ek:α→RV) (ev:β→RV) (H:Hp) (it l:Nat) (ps:List (α × β)) (js:List Nat):Prop where
 ex:∃ es c,H[l]? =some (.map es c)∧es.map (fun e=>(e.2.1,e.2.2))=ps.map (fun p=>(ek p.1,ev p.2))∧(∀ e∈es,e.1 < c)∧(es.map (·.1)).Nodup∧
  H[it]? =some (.iter (some l) c (js.map fun j=>((es[j]?).map (·.1)).getD 0) c)
 nod:js.Nodup
 lt:∀ j∈js,j < ps.length
section
variable {α β:Type} {ek:α→RV} {ev:β→RV} {H H':Hp} {it l:Nat} {ps:List (α × β)} {js:List Nat}
theorem dO_.keep (h:dO_ ek ev H l ps) (e:H'[l]? =H[l]?):dO_ ek ev H' l ps:=by
 have ⟨A,c,C,r⟩:=h.ex;exact⟨⟨A,c,by grind,r⟩,h.nodup⟩
theorem dO_.lt (h:dO_ ek ev H l ps):l < H.length:=by
 have ⟨r,c,A,_⟩:=h.ex;grind
theorem e3_.keep (h:e3_ ek ev H it l ps js) (I:H'[l]? =H[l]?) (D:H'[it]? =H[it]?):e3_ ek ev H' it l ps js:=by
 have ⟨G,c,J,A,C,F,r⟩:=h.ex;exact⟨⟨G,c,by grind,A,C,F,by rw[D]; exact r⟩,h.nod,h.lt⟩
theorem e3_.lts (h:e3_ ek ev H it l ps js):l < H.length∧it < H.length:=by
 have ⟨r,c,A,_,_,_,C⟩:=h.ex;grind
theorem e3_.map (h:e3_ ek ev H it l ps js) (C:(ps.map (·.1)).Nodup):dO_ ek ev H l ps:=by
 have ⟨G,c,F,r,A,D,_⟩:=h.ex;exact⟨⟨G,c,F,r,A,D⟩,C⟩
theorem vM_ (h:dO_ ek ev H l ps) (C:∀ o,e3_ ek ev (H++[o]) H.length l ps []→K (H++[o])):rng H (some l) K:=by
 have ⟨I,c,G,r,A,D⟩:=h.ex;unfold rng;simp [G];exact C _ ⟨⟨I,c,by grind,r,A,D,by rw[getElem?_concat_length]; rfl⟩,nodup_nil,fun j F=>by cases F⟩
theorem zN_ {es:List Ent} (h:es.map (fun e=>(e.2.1,e.2.2))=ps.map (fun p=>(ek p.1,ev p.2))):es.length=ps.length:=by
 have:=congrArg length h; simpa
theorem C4_ {es:List Ent} (h:es.map (fun e=>(e.2.1,e.2.2))=ps.map (fun p=>(ek p.1,ev p.2))) (A:j < ps.length) (r:j < es.length):es[j].2.1=ek ps[j].1∧es[j].2.2=ev ps[j].2:=by
 have:=congrArg (fun l:List (RV × RV)=>l[j]?) h;grind
theorem Fg_ {es:List Ent} (r:(es.map (·.1)).Nodup) (hi:i < es.length) (A:j < es.length) (h:es[i].1=es[j].1):i=j:=by
 rcases Nat.lt_trichotomy i j with g | g | g
 ·exact absurd (by grind) (pairwise_iff_getElem.1 r i j (by grind) (by grind) g)
 ·exact g
 ·exact absurd (by grind) (pairwise_iff_getElem.1 r j i (by grind) (by grind) g)
theorem u2_ (h:e3_ ek ev H it l ps js) (U:it≠l)
 (h1:∀ j (D:j < ps.length),j∉js→∀ H',H'.length=H.length→(∀ O,O≠it→H'[O]? =H[O]?)→e3_ ek ev H' it l ps (js++[j])→K1 (ek ps[j].1) (ev ps[j].2) H')
 (h2:js.Perm (List.range ps.length)→K2 H):nxt H it 0 K1 K2:=by
 have ⟨C,c,hm,Z,hb,hn,G⟩:=h.ex;have hl:=zN_ Z;have W:=(kC.1 G).1;have A:∀ j (D:j < C.length),((C[j]?).map (·.1)).getD 0=C[j].1:=fun j D=>by simp [kG D]
 refine⟨rfl,?_⟩;simp only[G,hm];refine⟨?_,fun e r V=> ?_,fun hall=> ?_⟩
 ·cases C with
  | nil=>exact .inr (.inl rfl)
  | cons e C=>exact .inr (.inr ⟨e,by simp,hb e (by simp)⟩)
 ·obtain⟨j,D,rfl⟩:=kK r;have J:=fun q=>V (mem_map.2 ⟨j,q,A j D⟩);have ⟨e1,e2⟩:=C4_ Z (by omega) D;rw[e1,e2];refine h1 j (by omega) J _ (by simp) (fun O Y=>by rw[kF (Ne.symm Y)]) ⟨⟨C,c,by rw[kF U]; exact hm,Z,hb,hn,?_⟩,?_,?_⟩
  ·rw[kH W,kL,map_singleton,A j D]
  ·rw[nodup_append];exact⟨h.nod,by simp,fun a ha b I q=>by simp at I; subst q; subst I; exact J ha⟩
  ·intro i N;rcases kD.1 N with q | q
   ·exact h.lt i q
   ·have:i=j:=by simpa using q
    omega
 ·refine h2 ((perm_ext_iff_of_nodup h.nod nodup_range).2 fun j=>⟨fun q=>mem_range.2 (h.lt j q),fun q=> ?_⟩);have D:j < C.length:=by have:=mem_range.1 q; omega
  have r:C[j].1∈js.map fun j=>((C[j]?).map (·.1)).getD 0:=by
   grind
  have ⟨i,N,e⟩:=mem_map.1 r;have F:i < C.length:=by have:=h.lt i N; omega
  rw[A i F] at e;rw[←Fg_ hn F D e]; exact N
theorem qw_ {j:Nat} (h:e3_ ek ev H it l ps (js++[j])) (G:j < ps.length) {K:RV→RV→Prop} (O:K (ek ps[j].1) (ev ps[j].2)):BN_ H it 0 K:=by
 obtain⟨C,c,I,r,U,F,D⟩:=h.ex;have V:=zN_ r;have A:j < C.length:=by omega
 refine⟨rfl,?_⟩;simp only[D,I,kL,map_singleton,getLast?_concat,kG A,Option.map_some,Option.getD_some];have Y:C.find? (fun e=>e.1==C[j].1)=some C[j]:=by
  have:∀ {l:List Ent},(l.map (·.1)).Nodup→∀ e∈l,l.find? (fun x=>x.1==e.1)=some e:=by
   intro l;induction l with
   | nil=>intro _ e r; cases r
   | cons x l N=>
    intro F e r;rw[map_cons,nodup_cons] at F;rw[find?_cons];rcases mem_cons.1 r with rfl | r
    ·simp
    ·grind
  grind
 obtain⟨J,W⟩:=C4_ r G A;grind
end
end Go.Am
namespace Go.Am
open List
def ti_ (n:Int):Bool:=(leI 97 n&&leI n 122)||(leI 48 n&&leI n 57)
def i7_ (s:ByteArray):Nat→Bool
 | 0=>true
 | i+1=>i7_ s i&&ti_ (byt s i)
def bk_ (s:ByteArray) (m:Int):Bool:=i7_ s s.size&&(leI 1 (sz s)&&leI (sz s) m)
theorem kC_ (h:ti_ (byt s i)=false):∀ n,i < n→i7_ s n=false
 | 0,r=>by omega
 | n+1,r=>by
  rcases Nat.lt_or_ge i n with q | q
  ·simp [i7_,kC_ h n q]
  ·obtain rfl:i=n:=by omega
   simp [i7_,h]
section
variable {H:Hp} {Q:Post} {s:ByteArray}
theorem k4_:s=mkS []↔s.size=0:=by
 constructor
 ·simp_all
 ·intro h;have:bs s=[]:=length_eq_zero_iff.1 (by simp_all);exact iM_ (by simp_all)
theorem o2_ {m:Int} (hs:s.size≤140737488351232) (hQ:Q (.g (.bool (bk_ s m))) H):c8_ [.g (.str s),.g (.int .i64 m)] H Q:=by
 refine⟨s.size+2,?_⟩;rw[At_];have loop:∀ (f i:Nat),s.size - i < f→i≤s.size→i7_ s i=true→c8_.l2 f s m (sz s) (i:Int) H Q:=by
  intro f;induction f with
  | zero=>intro i h; omega
  | succ f ih=>
   intro i hf hi hw;rw[c8_.l2_eq];rcases Nat.lt_or_ge i s.size with hi' | hi'
   ·rw[az_ (by simp [nc_]; omega)];refine ab_ (by simp [nc_]; omega) ?_;have etN:tN (i:Int)=i:=rfl;rw[etN,an_ (by omega)];have nx:ti_ (byt s i)=true→c8_.l2 f s m (sz s) ((i+1:Nat):Int) H Q:=fun h=>ih (i+1) (by omega) (by omega) (by simp [i7_,hw,h]);have no:ti_ (byt s i)=false→Q (.g (.bool false)) H:=fun h=>by
     have:bk_ s m=false:=by unfold bk_; rw[kC_ h _ hi']; rfl
     rw[←this]; exact hQ
    generalize byt s i=b at*;refine aa_ (fun e1=>aa_ (fun e2=>no ?_) (fun e2=>aa_ (fun e3=>no ?_) (fun e3=>nx ?_))) (fun e1=>aa_ (fun e2=>aa_ (fun e3=>no ?_) (fun e3=>aa_ (fun e4=>no ?_) (fun e4=>nx ?_))) (fun e2=>nx ?_))<;>
     simp [ti_] at* <;>omega
   ·obtain rfl:i=s.size:=by omega
    rw[aD_ (by simp [nc_])];unfold bk_ at hQ;rw[hw,Bool.true_and] at hQ;refine aa_ (fun e=> ?_) (fun e=> ?_)
    ·have h0:s.size≠0:=fun z=>by rw[k4_.2 z] at e; simp at e
     rw[show leI 1 (sz s)=true by simp [nc_]; omega,Bool.true_and] at hQ;exact hQ
    ·have h0:s.size=0:=k4_.1 (by simpa using e);rw[show leI 1 (sz s)=false by simp [nc_]; omega,Bool.false_and] at hQ;exact hQ
 exact loop _ 0 (by omega) (kP _) rfl
theorem md_ {m:Int} (hs:s.size≤140737488351232) (hQ:Q (.g (.bool (bk_ s m))) H):cj_ [.g (.str s),.g (.int .i64 m)] H Q:=by
 refine⟨s.size+2,?_⟩;rw[w7_];have loop:∀ (f i:Nat),s.size - i < f→i≤s.size→i7_ s i=true→cj_.l2 f s m (i:Int) H Q:=by
  intro f;induction f with
  | zero=>intro i h; omega
  | succ f ih=>
   intro i hf hi hw;rw[cj_.l2_eq];rcases Nat.lt_or_ge i s.size with hi' | hi'
   ·rw[az_ (by simp [nc_]; omega)];have hck:(leI 0 (i:Int)&&ltI (i:Int) (sz s))=true:=by simp [nc_]; omega
    rw[hck];simp only[ae_];have etN:tN (i:Int)=i:=rfl;rw[etN,an_ (by omega)];have nx:ti_ (byt s i)=true→cj_.l2 f s m ((i+1:Nat):Int) H Q:=fun h=>ih (i+1) (by omega) (by omega) (by simp [i7_,hw,h]);have no:ti_ (byt s i)=false→Q (.g (.bool false)) H:=fun h=>by
     have:bk_ s m=false:=by unfold bk_; rw[kC_ h _ hi']; rfl
     rw[←this]; exact hQ
    generalize byt s i=b at*;refine aa_ (fun e1=>aa_ (fun e2=>nx ?_) (fun e2=>aa_ (fun e3=>aa_ (fun e4=>no ?_) (fun e4=>nx ?_)) (fun e3=>no ?_))) (fun e1=>aa_ (fun e3=>aa_ (fun e4=>no ?_) (fun e4=>nx ?_)) (fun e3=>no ?_))<;>
     simp [ti_] at* <;>omega
   ·obtain rfl:i=s.size:=by omega
    rw[aD_ (by simp [nc_])];unfold bk_ at hQ;rw[hw,Bool.true_and] at hQ;refine aa_ (fun e=> ?_) (fun e=> ?_)
    ·rw[e,Bool.true_and] at hQ; exact hQ
    ·rw[e,Bool.false_and] at hQ; exact hQ
 exact loop _ 0 (by omega) (kP _) rfl
end
end Go.Am
namespace Go.Am
open List
theorem dY_ (h:(!b)=true):b=false:=by cases b<;>simp_all
theorem eE_ (h:(!b)=false):b=true:=by cases b<;>simp_all
theorem lp_ (s:ByteArray) (l h:Nat):(sub s l h).size≤s.size:=by
 unfold sub;rw[ByteArray.size_extract]; omega
theorem kS_ (s:ByteArray) (j:Nat):0≤byt s j∧byt s j≤255:=by
 unfold byt;have:((s.data.toList.getD j 0).toNat) < 256:=UInt8.toNat_lt _;omega
theorem eW_ (s:ByteArray) (j:Nat):ac_ .i64 (byt s j)=byt s j:=by
 have:=kS_ s j;exact cy_ (by omega) (by omega)
def ch_ (s:ByteArray):Option ByteArray:=match leI 1 (sz s)&&(eqI (byt s 0) 115&&bk_ (sub s 1 s.size) 4) with | true=>some (sub s 1 s.size) | false=>none
def bX_ (s:ByteArray):Option (Int × ByteArray):=match leI 2 (sz s)&&(eqI (byt s 0) 102&&(leI 1 (byt s 1)&&bk_ (sub s 2 s.size) 3)) with | true=>some (byt s 1,sub s 2 s.size) | false=>none
def cQ_ (s:ByteArray):Option Int:=match eqI (sz s) 2&&(eqI (byt s 0) 105&&leI 1 (byt s 1)) with | true=>some (byt s 1) | false=>none
structure SnapR where
 id:Int
 kind:Int
 parent:ByteArray
 label:ByteArray
 deriving DecidableEq
structure InoR where
 links:Int
 content:ByteArray
 deriving DecidableEq
def SnapR.cells (x:SnapR):List GV:=[.int .i64 x.id,.int .i64 x.kind,.str x.parent,.str x.label]
def InoR.cells (x:InoR):List GV:=[.int .i64 x.links,.str x.content]
def kr_:SnapR:=⟨0,0,mkS [],mkS []⟩
def wL_:InoR:=⟨0,mkS []⟩
def fk_ (x:SnapR):Bool:=(leI 1 x.id&&leI x.id 255)&&((leI 0 x.kind&&leI x.kind 2)&&((ey_ x.parent (mkS [])||bk_ x.parent 4)&&leI (sz x.label) 3))
def ec_ (x:InoR):Bool:=(leI 1 x.links&&leI x.links 255)&&leI (sz x.content) 6
def mW_ (s:ByteArray):SnapR:=⟨byt s 0,byt s 1,sub s 3 (tN (3+byt s 2)),sub s (tN (3+byt s 2)) s.size⟩
def to_ (s:ByteArray):InoR:=⟨byt s 0,sub s 1 s.size⟩
def bF_ (s:ByteArray):Option SnapR:=match leI 3 (sz s)&&(leI (3+byt s 2) (sz s)&&fk_ (mW_ s)) with | true=>some (mW_ s) | false=>none
def cx_ (s:ByteArray):Option InoR:=match leI 1 (sz s)&&ec_ (to_ s) with | true=>some (to_ s) | false=>none
def Iw_ (o:Option SnapR):Int:=match o with | some _=>0 | none=>1700
def Iq_ (o:Option InoR):Int:=match o with | some _=>0 | none=>1800
section
variable {H:Hp} {Q:Post} {s:ByteArray}
theorem gS_ (r:s.size≤140737488351232) (A:Q (.g (.bool (bk_ s 4))) H):dI_ [.g (.str s)] H Q:=by
 refine⟨1,?_⟩;rw[wT_];refine o2_ r ?_;simp_all
theorem iN_ (r:s.size≤140737488351232) (A:Q (.g (.bool (bk_ s 3))) H):eK_ [.g (.str s)] H Q:=by
 refine⟨1,?_⟩;rw[wK_];refine o2_ r ?_;simp_all
theorem cb_ (r:s.size≤140737488351232) (A:Q (.g (.bool (bk_ s 4))) H):bg_ [.g (.str s)] H Q:=by
 refine⟨1,?_⟩;rw[sF_];refine md_ r ?_;simp_all
theorem fD_ (r:s.size≤140737488351232) (A:Q (.g (.bool (bk_ s 3))) H):cl_ [.g (.str s)] H Q:=by
 refine⟨1,?_⟩;rw[s6_];refine md_ r ?_;simp_all
theorem g7_ (r:Q (.g (.bool (leI 1 n&&leI n 255))) H):gq_ [.g (.int .i64 n)] H Q:=by
 refine⟨1,?_⟩;rw[Dp_];refine aa_ (fun e=> ?_) (fun e=> ?_)
 ·grind
 ·grind
theorem gD_ (r:Q (.g (.bool (leI 1 n&&leI n 255))) H):de_ [.g (.int .i64 n)] H Q:=by
 refine⟨1,?_⟩;rw[vs_];refine aa_ (fun e=> ?_) (fun e=> ?_)
 ·grind
 ·grind
theorem nK_ (A:1≤n) (r:Q (.g (.bool (leI n (sz s)&&eqI (byt s 0) p))) H):j5_ [.g (.str s),.g (.int .u8 p),.g (.int .i64 n)] H Q:=by
 refine⟨1,?_⟩;rw[DM_];refine aa_ (fun e=> ?_) (fun e=> ?_)
 ·rw[e,Bool.true_and] at r;refine ab_ (by simp at e ⊢; omega) ?_;exact r
 ·grind
theorem w4_ (hs:s.size≤140737488351232) (hQ:Q (.tup [.s (.str ((ch_ s).getD (mkS []))),.s (.bool (ch_ s).isSome)]) H):jI_ [.g (.str s)] H Q:=by
 have hz:=lp_ s 1 s.size;refine⟨1,?_⟩;rw[zS_];refine nK_ (by omega) ?_;simp only[aN_,ak_];refine aa_ (fun e=> ?_) (fun e=> ?_)
 ·have:ch_ s=none:=by unfold ch_; rw[←Bool.and_assoc,dY_ e]; rfl
  rw[this] at hQ; exact hQ
 ·have e':(leI 1 (sz s)&&eqI (byt s 0) 115)=true:=by simpa using e
  have h1:1≤s.size:=by simp at e'; omega
  refine ab_ (by simp; omega) ?_;refine gS_ (Nat.le_trans hz hs) ?_;simp only[aN_,ak_];refine aa_ (fun e2=> ?_) (fun e2=> ?_)
  ·have:ch_ s=none:=by unfold ch_; rw[←Bool.and_assoc,e',show bk_ (sub s 1 s.size) 4=false by simpa using e2]; rfl
   rw[this] at hQ; exact hQ
  ·have:ch_ s=some (sub s 1 s.size):=by unfold ch_; rw[←Bool.and_assoc,e',show bk_ (sub s 1 s.size) 4=true by simpa using e2]; rfl
   rw[this] at hQ;refine ab_ (by simp; omega) ?_;exact hQ
theorem rf_ (hs:s.size≤140737488351232) (hQ:Q (.tup [.s (.str ((ch_ s).getD (mkS []))),.s (.bool (ch_ s).isSome)]) H):fO_ [.g (.str s)] H Q:=by
 have hz:=lp_ s 1 s.size;refine⟨1,?_⟩;rw[tM_];refine aa_ (fun e=> ?_) (fun e=> ?_)
 ·have:ch_ s=none:=by unfold ch_; rw[show leI 1 (sz s)=false by simp at e ⊢; omega]; rfl
  rw[this] at hQ; exact hQ
 ·have h1:1≤s.size:=by simp at e; omega
  have e0:leI 1 (sz s)=true:=by simp; omega
  refine ab_ (by simp; omega) ?_;refine aa_ (fun e1=> ?_) (fun e1=> ?_)
  ·have:ch_ s=none:=by unfold ch_; rw[show eqI (byt s 0) 115=false by simpa using e1,e0]; rfl
   rw[this] at hQ; exact hQ
  have e1':eqI (byt s 0) 115=true:=by simpa using e1
  refine ab_ (by simp; omega) ?_;refine cb_ (Nat.le_trans hz hs) ?_;simp only[aN_,ak_];refine aa_ (fun e2=> ?_) (fun e2=> ?_)
  ·have:ch_ s=none:=by unfold ch_; rw[e0,e1',show bk_ (sub s 1 s.size) 4=false by simpa using e2]; rfl
   rw[this] at hQ; exact hQ
  ·have:ch_ s=some (sub s 1 s.size):=by unfold ch_; rw[e0,e1',show bk_ (sub s 1 s.size) 4=true by simpa using e2]; rfl
   rw[this] at hQ;refine ab_ (by simp; omega) ?_;exact hQ
theorem xf_ (hs:s.size≤140737488351232) (hQ:Q (.tup [.s (.int .i64 ((bX_ s).map (·.1) |>.getD 0)),.s (.str ((bX_ s).map (·.2) |>.getD (mkS []))),.s (.bool (bX_ s).isSome)]) H):jq_ [.g (.str s)] H Q:=by
 have hz:=lp_ s 2 s.size;refine⟨1,?_⟩;rw[zK_];refine nK_ (by omega) ?_;simp only[aN_,ak_];refine aa_ (fun e=> ?_) (fun e=> ?_)
 ·have:bX_ s=none:=by unfold bX_; rw[←Bool.and_assoc,dY_ e]; rfl
  rw[this] at hQ; exact hQ
 ·have e':(leI 2 (sz s)&&eqI (byt s 0) 102)=true:=by simpa using e
  have h1:2≤s.size:=by simp at e'; omega
  have hb:=kS_ s 1;refine ab_ (by simp; omega) ?_;refine g7_ ?_;simp only[aN_,ak_];rw[show tN 1=1 from rfl,eW_];refine aa_ (fun e2=> ?_) (fun e2=> ?_)
  ·have:bX_ s=none:=by unfold bX_; rw[←Bool.and_assoc,e',show leI 1 (byt s 1)=false by simp at e2 ⊢; omega]; rfl
   rw[this] at hQ; exact hQ
  ·have e3:leI 1 (byt s 1)=true:=by simp at e2 ⊢; omega
   refine ab_ (by simp; omega) ?_;refine iN_ (Nat.le_trans hz hs) ?_;simp only[aN_,ak_];refine aa_ (fun e4=> ?_) (fun e4=> ?_)
   ·have:bX_ s=none:=by unfold bX_; rw[←Bool.and_assoc,e',e3,show bk_ (sub s 2 s.size) 3=false by simpa using e4]; rfl
    rw[this] at hQ; exact hQ
   ·have:bX_ s=some (byt s 1,sub s 2 s.size):=by unfold bX_; rw[←Bool.and_assoc,e',e3,show bk_ (sub s 2 s.size) 3=true by simpa using e4]; rfl
    rw[this] at hQ;exact ab_ (by simp; omega) (ab_ (by simp; omega) hQ)
theorem ru_ (hs:s.size≤140737488351232) (hQ:Q (.tup [.s (.int .i64 ((bX_ s).map (·.1) |>.getD 0)),.s (.str ((bX_ s).map (·.2) |>.getD (mkS []))),.s (.bool (bX_ s).isSome)]) H):fL_ [.g (.str s)] H Q:=by
 have hz:=lp_ s 2 s.size;have hb:=kS_ s 1;refine⟨1,?_⟩;rw[ub_];refine aa_ (fun e=> ?_) (fun e=> ?_)
 ·have:bX_ s=none:=by unfold bX_; rw[show leI 2 (sz s)=false by simp at e ⊢; omega]; rfl
  rw[this] at hQ; exact hQ
 ·have h1:2≤s.size:=by simp at e; omega
  have e0:leI 2 (sz s)=true:=by simp; omega
  refine ab_ (by simp; omega) ?_;refine aa_ (fun e1=> ?_) (fun e1=> ?_)
  ·have:bX_ s=none:=by unfold bX_; rw[show eqI (byt s 0) 102=false by simpa using e1,e0]; rfl
   rw[this] at hQ; exact hQ
  have e1':eqI (byt s 0) 102=true:=by simpa using e1
  refine ab_ (by simp; omega) ?_;rw[show tN 1=1 from rfl,eW_];refine aa_ (fun e2=> ?_) (fun e2=> ?_)
  ·have:bX_ s=none:=by unfold bX_; rw[e0,e1',show leI 1 (byt s 1)=false by simp at e2 ⊢; omega]; rfl
   rw[this] at hQ; exact hQ
  ·have e3:leI 1 (byt s 1)=true:=by simp at e2 ⊢; omega
   refine ab_ (by simp; omega) ?_;refine fD_ (Nat.le_trans hz hs) ?_;simp only[aN_,ak_];refine aa_ (fun e4=> ?_) (fun e4=> ?_)
   ·have:bX_ s=none:=by unfold bX_; rw[e0,e1',e3,show bk_ (sub s 2 s.size) 3=false by simpa using e4]; rfl
    rw[this] at hQ; exact hQ
   ·have:bX_ s=some (byt s 1,sub s 2 s.size):=by unfold bX_; rw[e0,e1',e3,show bk_ (sub s 2 s.size) 3=true by simpa using e4]; rfl
    rw[this] at hQ;exact ab_ (by simp; omega) (ab_ (by simp; omega) hQ)
theorem uf_ (F:Q (.tup [.s (.int .i64 ((cQ_ s).getD 0)),.s (.bool (cQ_ s).isSome)]) H):gW_ [.g (.str s)] H Q:=by
 have G:=kS_ s 1;refine⟨1,?_⟩;rw[xb_];refine nK_ (by omega) (aa_ (fun e=> ?_) (fun e=> ?_))
 ·have:cQ_ s=none:=by
   unfold cQ_;have:(eqI (sz s) 2&&(eqI (byt s 0) 105&&leI 1 (byt s 1)))=false:=by
    cases h:(eqI (sz s) 2&&(eqI (byt s 0) 105&&leI 1 (byt s 1))) with
    | false=>rfl
    | true=>simp at h e; omega
   grind
  grind
 ·have C:eqI (byt s 0) 105=true:=by grind
  refine aa_ (fun D=> ?_) (fun D=> ?_)
  ·have:cQ_ s=none:=by unfold cQ_; rw[show eqI (sz s) 2=false by simpa using D]; rfl
   grind
  ·have r:eqI (sz s) 2=true:=by grind
   refine ab_ (by simp_all) (g7_ ?_);rw[show tN 1=1 from rfl,eW_];refine aa_ (fun A=> ?_) (fun A=> ?_)
   ·have:cQ_ s=none:=by unfold cQ_; rw[r,C,show leI 1 (byt s 1)=false by simp at A ⊢; omega]; rfl
    grind
   ·have:cQ_ s=some (byt s 1):=by unfold cQ_; rw[r,C,show leI 1 (byt s 1)=true by simp at A ⊢; omega]; rfl
    simp_all
theorem oB_ (G:Q (.tup [.s (.int .i64 ((cQ_ s).getD 0)),.s (.bool (cQ_ s).isSome)]) H):eM_ [.g (.str s)] H Q:=by
 have I:=kS_ s 1;refine⟨1,?_⟩;rw[qm_];refine aa_ (fun F=> ?_) (fun F=> ?_)
 ·have:cQ_ s=none:=by unfold cQ_; rw[show eqI (sz s) 2=false by simpa using F]; rfl
  grind
 ·have r:eqI (sz s) 2=true:=by grind
  refine ab_ (by simp_all) (aa_ (fun D=> ?_) (fun D=> ?_))
  ·have:cQ_ s=none:=by unfold cQ_; rw[r,show eqI (byt s 0) 105=false by simpa using D]; rfl
   grind
  have A:eqI (byt s 0) 105=true:=by simp_all
  refine ab_ (by simp_all) ?_;rw[show tN 1=1 from rfl,eW_];refine aa_ (fun C=> ?_) (fun C=> ?_)
  ·have:cQ_ s=none:=by unfold cQ_; rw[r,A,show leI 1 (byt s 1)=false by simp at C ⊢; omega]; rfl
   grind
  ·have:cQ_ s=some (byt s 1):=by unfold cQ_; rw[r,A,show leI 1 (byt s 1)=true by simp at C ⊢; omega]; rfl
   simp_all
end
end Go.Am
namespace Go.Am
open List
section
variable {H:Hp} {Q:Post} {s:ByteArray}
theorem nb_ (r:Q (.g (.bool (leI 0 n&&leI n 2))) H):gy_ [.g (.int .i64 n)] H Q:=by
 refine⟨1,?_⟩;rw[yO_];refine aa_ (fun e=> ?_) (fun e=> ?_)
 ·grind
 ·grind
theorem iS_ (r:Q (.g (.bool (leI (sz s) 3))) H):fK_ [.g (.str s)] H Q:=⟨1,r⟩
theorem j4_ (r:Q (.g (.bool (leI (sz s) 6))) H):ex_ [.g (.str s)] H Q:=⟨1,r⟩
theorem o8_ (G:x.parent.size≤140737488351232) (F:Q (.g (.bool (fk_ x))) H):ht_ [.agg [.int .i64 x.id,.int .i64 x.kind,.str x.parent,.str x.label]] H Q:=by
 refine⟨1,?_⟩;rw[A0_];unfold fk_ at F;refine g7_ (aa_ (fun D=> ?_) (fun D=> ?_))
 rotate_left
 ·grind
 refine nb_ (aa_ (fun A=> ?_) (fun A=> ?_))
 rotate_left
 ·grind
 refine aa_ (fun C=> ?_) (fun C=> ?_)
 ·refine iS_ ?_;simp_all
 ·refine gS_ G (aa_ (fun r=> ?_) (fun r=> ?_))
  ·refine iS_ ?_;simp_all
  ·grind
theorem jT_ (I:x.parent.size≤140737488351232) (G:Q (.g (.bool (fk_ x))) H):dQ_ [.agg [.int .i64 x.id,.int .i64 x.kind,.str x.parent,.str x.label]] H Q:=by
 refine⟨1,?_⟩;rw[rI_];unfold fk_ at G;refine gD_ (aa_ (fun D=> ?_) (fun D=> ?_))
 rotate_left
 ·grind
 refine aa_ (fun A=> ?_) (fun A=> ?_)
 rotate_left
 ·grind
 refine aa_ (fun F=> ?_) (fun F=> ?_)
 rotate_left
 ·grind
 refine aa_ (fun C=> ?_) (fun C=> ?_)
 ·grind
 ·refine cb_ I (aa_ (fun r=> ?_) (fun r=> ?_))
  ·grind
  ·grind
theorem nS_ (A:Q (.g (.bool (ec_ x))) H):gv_ [.agg [.int .i64 x.links,.str x.content]] H Q:=by
 refine⟨1,?_⟩;rw[zk_];unfold ec_ at A;refine g7_ (aa_ (fun r=> ?_) (fun r=> ?_))
 ·refine j4_ ?_;simp_all
 ·grind
theorem iV_ (A:Q (.g (.bool (ec_ x))) H):ds_ [.agg [.int .i64 x.links,.str x.content]] H Q:=by
 refine⟨1,?_⟩;rw[rv_];unfold ec_ at A;refine gD_ (aa_ (fun r=> ?_) (fun r=> ?_))
 ·grind
 ·grind
theorem wU_ (V:s.size≤140737488351232) (r:Q (.tup [.a ((bF_ s).getD kr_).cells,.s (.int .i64 (Iw_ (bF_ s)))]) H):jZ_ [.g (.str s)] H Q:=by
 have Y:=kS_ s 2;refine⟨1,?_⟩;rw[A5_];refine aa_ (fun I=> ?_) (fun I=> ?_)
 ·have:bF_ s=none:=by unfold bF_; rw[show leI 3 (sz s)=false by simp at I ⊢; omega]; rfl
  rw[this] at r; exact r
 have W:3≤s.size:=by simp at I; omega
 have A:leI 3 (sz s)=true:=by simp_all
 have N:tN 2=2:=rfl;have J:tN 1=1:=rfl;have U:tN 0=0:=rfl;have O:tN 3=3:=rfl;rw[U,J,N,O,eW_,eW_,eW_,cy_ (by simp; omega) (by simp; omega),cy_ (by omega) (by omega)];refine ab_ (by simp; omega) ?_;refine aa_ (fun F=> ?_) (fun F=> ?_)
 ·have:bF_ s=none:=by unfold bF_; rw[show leI (3+byt s 2) (sz s)=false by simp at F ⊢; omega,A]; rfl
  rw[this] at r; exact r
 have C:leI (3+byt s 2) (sz s)=true:=by simp at F ⊢; omega
 have D:(tN (3+byt s 2))≤s.size:=by simp_all
 refine ab_ (by simp; omega) (ab_ (by simp; omega) (ab_ (by simp; omega) (ab_ (by simp; omega) (ab_ (by simp at D ⊢; omega) ?_))));refine ab_ (by simp; omega) (ab_ (by simp at D ⊢; omega) ?_);refine o8_ (x:=mW_ s) (Nat.le_trans (lp_ _ _ _) V) (aa_ (fun G=> ?_) (fun G=> ?_))
 ·have:bF_ s=none:=by unfold bF_; rw[A,C,dY_ G]; rfl
  rw[this] at r; exact r
 ·have:bF_ s=some (mW_ s):=by unfold bF_; rw[A,C,eE_ G]; rfl
  rw[this] at r; exact r
theorem pp_ (V:s.size≤140737488351232) (r:Q (.tup [.a ((bF_ s).getD kr_).cells,.s (.int .i64 (Iw_ (bF_ s)))]) H):fc_ [.g (.str s)] H Q:=by
 have Y:=kS_ s 2;refine⟨1,?_⟩;rw[rJ_];refine aa_ (fun G=> ?_) (fun G=> ?_)
 ·have:bF_ s=none:=by unfold bF_; rw[show leI 3 (sz s)=false by simp at G ⊢; omega]; rfl
  rw[this] at r; exact r
 have W:3≤s.size:=by simp at G; omega
 have A:leI 3 (sz s)=true:=by simp_all
 have N:tN 2=2:=rfl;have J:tN 1=1:=rfl;have U:tN 0=0:=rfl;have O:tN 3=3:=rfl;rw[U,J,N,O,eW_,eW_,eW_,cy_ (by omega) (by omega)];refine ab_ (by simp; omega) ?_;refine aa_ (fun I=> ?_) (fun I=> ?_)
 ·have:bF_ s=none:=by unfold bF_; rw[show leI (3+byt s 2) (sz s)=false by simp at I ⊢; omega,A]; rfl
  rw[this] at r; exact r
 have C:leI (3+byt s 2) (sz s)=true:=by simp_all
 have D:(tN (3+byt s 2))≤s.size:=by simp_all
 refine ab_ (by simp; omega) (ab_ (by simp; omega) (ab_ (by simp; omega) (ab_ (by simp; omega) (ab_ (by simp at D ⊢; omega) ?_))));refine ab_ (by simp; omega) (ab_ (by simp at D ⊢; omega) ?_);refine jT_ (x:=mW_ s) (Nat.le_trans (lp_ _ _ _) V) (aa_ (fun F=> ?_) (fun F=> ?_))
 ·have:bF_ s=none:=by unfold bF_; rw[A,C,dY_ F]; rfl
  rw[this] at r; exact r
 ·have:bF_ s=some (mW_ s):=by unfold bF_; rw[A,C,eE_ F]; rfl
  rw[this] at r; exact r
theorem vj_ (G:s.size≤140737488351232) (r:Q (.tup [.a ((cx_ s).getD wL_).cells,.s (.int .i64 (Iq_ (cx_ s)))]) H):hU_ [.g (.str s)] H Q:=by
 refine⟨1,?_⟩;rw[zn_];refine aa_ (fun D=> ?_) (fun D=> ?_)
 ·have F:s.size=0:=k4_.1 (by simp_all);have:cx_ s=none:=by unfold cx_; rw[show leI 1 (sz s)=false by simp; omega]; rfl
  rw[this] at r; exact r
 have F:s.size≠0:=fun z=>by rw[k4_.2 z] at D; simp at D
 have A:leI 1 (sz s)=true:=by simp; omega
 rw[show tN 0=0 from rfl,show tN 1=1 from rfl,eW_];refine ab_ (by simp; omega) (ab_ (by simp; omega) ?_);refine nS_ (x:=to_ s) (aa_ (fun C=> ?_) (fun C=> ?_))
 ·have:cx_ s=none:=by unfold cx_; rw[A,dY_ C]; rfl
  rw[this] at r; exact r
 ·have:cx_ s=some (to_ s):=by unfold cx_; rw[A,eE_ C]; rfl
  rw[this] at r; exact r
theorem oR_ (G:s.size≤140737488351232) (r:Q (.tup [.a ((cx_ s).getD wL_).cells,.s (.int .i64 (Iq_ (cx_ s)))]) H):eO_ [.g (.str s)] H Q:=by
 refine⟨1,?_⟩;rw[qg_];refine aa_ (fun D=> ?_) (fun D=> ?_)
 ·have F:s.size=0:=k4_.1 (by simp_all);have:cx_ s=none:=by unfold cx_; rw[show leI 1 (sz s)=false by simp; omega]; rfl
  rw[this] at r; exact r
 have F:s.size≠0:=fun z=>by rw[k4_.2 z] at D; simp at D
 have A:leI 1 (sz s)=true:=by simp; omega
 rw[show tN 0=0 from rfl,show tN 1=1 from rfl,eW_];refine ab_ (by simp; omega) (ab_ (by simp; omega) ?_);refine iV_ (x:=to_ s) (aa_ (fun C=> ?_) (fun C=> ?_))
 ·have:cx_ s=none:=by unfold cx_; rw[A,dY_ C]; rfl
  rw[this] at r; exact r
 ·have:cx_ s=some (to_ s):=by unfold cx_; rw[A,eE_ C]; rfl
  rw[this] at r; exact r
end
end Go.Am
namespace Go.Am
def blt (a b:ByteArray):Bool:=Op.bytesLess (bs a) (bs b)
theorem iO_ (a b:ByteArray):dN_ a b=blt a b:=jp_ a b
def Gx_:List ByteArray→Bool
 | []=>true
 | [_]=>true
 | a::b::r=>Op.bytesLess (bs a) (bs b)&&Gx_ (b::r)
theorem wx_:∀ xs:List ByteArray,Gx_ xs=true↔h4_ xs
 | []=>⟨fun _ i h=>absurd h (by simp),fun _=>rfl⟩
 | [_]=>⟨fun _ i h=>absurd h (by simp),fun _=>rfl⟩
 | a::b::r=>by
  have F:=wx_ (b::r);simp [Gx_,F,←jp_];constructor
  ·rintro⟨D,C⟩ i A;cases i with
   | zero=>exact D
   | succ i=>exact C i (by grind)
  ·exact fun h=>⟨h 0 (by simp),fun i A=>h (i+1) (by grind)⟩
def nodB:List Int→Bool
 | []=>true
 | a::r=> !(r.contains a)&&nodB r
theorem AF_:∀ xs:List Int,nodB xs=true↔xs.Nodup
 | []=>by simp [nodB]
 | a::r=>by simp [nodB,AF_ r]
def Cg_ (p:Pg):Bool:=p.used&&(Gx_ p.keys&&(p.keys.all (fun k=>decide (1≤k.size)&&decide (k.size≤6))&&
 (match p.leaf with
  | true=>decide (p.vals.length=p.keys.length)&&(p.kids.isEmpty&&p.vals.all (fun v=>decide (v.size≤10)))
  | false=>decide (1≤p.keys.length)&&(p.vals.isEmpty&&(decide (p.kids.length=p.keys.length+1)&&(p.kids.all (fun k=>decide (1≤k)&&decide (k < 48))&&nodB p.kids))))))
theorem DW_ (p:Pg):Cg_ p=true↔k2_ p:=by
 have ⟨u,l,r,A,is⟩:=p;cases l with
 | true=>
  simp [Cg_,wx_];exact⟨fun h=>⟨h.1,h.2.1,h.2.2.1,fun _=>h.2.2.2,fun q=>(by grind)⟩,fun h=>⟨h.used,h.rising,h.keys,h.leaf rfl⟩⟩
 | false=>
  simp [Cg_,wx_,AF_];exact⟨fun h=>⟨h.1,h.2.1,h.2.2.1,fun q=>(by grind),fun _=>h.2.2.2⟩,fun h=>⟨h.used,h.rising,h.keys,h.inner rfl⟩⟩
def kv_ (p:Pg):Bool:=decide (p.keys.length≤4)&&Cg_ p
theorem ef_ (p:Pg):kv_ p=true↔fS_ p:=by simp [kv_,fS_,DW_]
structure WS where
 met:List Bool
 deep:Nat
 count:Nat
def f4_ (lo hi:ByteArray) (ks:List ByteArray):Bool:=ks.all fun k=> !(blt k lo)&&(decide (hi.size=0)||blt k hi)
def loK (p:Pg) (lo:ByteArray) (i:Nat):ByteArray:=match decide (0 < i) with | true=>p.keys[i - 1]?.getD lo | false=>lo
def hiK (p:Pg) (hi:ByteArray) (i:Nat):ByteArray:=p.keys[i]?.getD hi
def ga_ (rec:Int→Nat→WS→Option WS):List Int→Nat→WS→Option WS
 | [],_,st=>some st
 | k::ks,i,st=>match rec k i st with
  | none=>none
  | some st'=>ga_ rec ks (i+1) st'
def okD (p:Pg) (at_:Nat) (lo hi:ByteArray) (st:WS):Bool:= !(st.met[at_]?.getD true)&&(kv_ p&&(!(decide (0 < at_)&&decide (p.keys.length < 2))&&f4_ lo hi p.keys))
def leafD (p:Pg) (deep:Nat) (st:WS):Option WS:=match decide (st.deep=0) with
 | true=>some ⟨st.met,deep,st.count+p.keys.length⟩
 | false=>match decide (st.deep=deep) with
  | true=>some ⟨st.met,deep,st.count+p.keys.length⟩
  | false=>none
def cC_ (T:List Pg):Nat→Nat→Nat→ByteArray→ByteArray→WS→Option WS
 | 0,_,_,_,_,_=>none
 | f+1,at_,deep,lo,hi,st=>match T[at_]? with
  | none=>none
  | some p=>match okD p at_ lo hi st with
   | false=>none
   | true=>match p.leaf with
    | true=>leafD p deep ⟨st.met.set at_ true,st.deep,st.count⟩
    | false=>ga_ (fun k i s=>cC_ T f k.toNat (deep+1) (loK p lo i) (hiK p hi i) s) p.kids 0 ⟨st.met.set at_ true,st.deep,st.count⟩
def cY_ (p:Pg):Bool:= !p.used&&(!p.leaf&&(p.keys.isEmpty&&(p.vals.isEmpty&&p.kids.isEmpty)))
def g6_ (T:List Pg) (met:List Bool):Bool:=(List.range T.length).all fun i=>met[i]?.getD true||cY_ (T[i]?.getD noPg)
def ws0:WS:=⟨List.replicate 48 false,0,0⟩
def aK_ (T:List Pg):Nat:=match decide (T.length=48) with
 | false=>0
 | true=>match cC_ T 49 0 1 (mkS []) (mkS []) ws0 with
  | none=>0
  | some st=>match g6_ T st.met&&decide (st.count≤60) with
   | true=>st.deep
   | false=>0
def f7_ (met:List Bool):Nat:=(met.filter (! ·)).length
theorem od_:∀ {met:List Bool} {i:Nat},met[i]? =some false→f7_ (met.set i true)+1=f7_ met
 | [],i,h=>by grind
 | b::met,0,h=>by simp at h; subst h; simp [f7_]
 | b::met,i+1,h=>by
  have:=od_ (met:=met) (i:=i) (by grind);unfold f7_ at this ⊢;grind
theorem ir_ (T:List Pg):∀ f D A lo hi st C,cC_ T f D A lo hi st=some C→f7_ C.met≤f7_ st.met∧C.met.length=st.met.length∧(1≤A→C.deep≠0)∧C.count+4*f7_ C.met≤st.count+4*f7_ st.met:=by
 intro f;induction f with
 | zero=>intro _ _ _ _ _ _ h; cases h
 | succ f ih=>
  intro D A lo hi st C h;unfold cC_ at h;cases V:T[D]? with
  | none=>rw[V] at h; cases h
  | some p=>
   rw[V] at h;dsimp at h;cases r:okD p D lo hi st with
   | false=>rw[r] at h; cases h
   | true=>
    rw[r] at h;have hm:st.met[D]? =some false:=by
     unfold okD at r;rw[kR] at r;have:=r.1;cases U:st.met[D]? with
     | none=>rw[U] at this; simp at this
     | some b=>rw[U] at this; simp at this; rw[this]
    have hu:=od_ hm;have h4:p.keys.length≤4:=by
     unfold okD at r;simp only[kR] at r;exact ((ef_ p).1 r.2.1).1
    cases I:p.leaf with
    | true=>
     rw[I] at h;dsimp [leafD] at h;split at h
     ·cases h; exact⟨by dsimp; omega,by simp,fun hd=>by dsimp; omega,by dsimp; omega⟩
     ·split at h
      ·cases h; exact⟨by dsimp; omega,by simp,fun hd=>by dsimp; omega,by dsimp; omega⟩
      ·cases h
    | false=>
     rw[I] at h;have hk:p.kids≠[]:=by
      intro e;unfold okD at r;simp only[kR] at r;have:=((ef_ p).1 r.2.1).2.inner I;rw[e] at this;simp at this
     have key:∀ G i (s F),ga_ (fun k i s=>cC_ T f k.toNat (A+1) (loK p lo i) (hiK p hi i) s) G i s=some F→f7_ F.met≤f7_ s.met∧F.met.length=s.met.length∧(G≠[]∨s.deep≠0→F.deep≠0)∧F.count+4*f7_ F.met≤s.count+4*f7_ s.met:=by
      intro G;induction G with
      | nil=>intro i s F h; cases h; exact⟨kO _,rfl,fun q=>by simp_all,kO _⟩
      | cons k G J=>
       intro i s F h;unfold ga_ at h;cases N:cC_ T f k.toNat (A+1) (loK p lo i) (hiK p hi i) s with
       | none=>rw[N] at h; cases h
       | some s1=>
        rw[N] at h;have ⟨W,O,Z,Y⟩:=ih _ _ _ _ _ _ N;obtain⟨v1,v2,v3,v4⟩:=J _ _ _ h;omega
     obtain⟨W,O,Z,Y⟩:=key _ _ _ _ h;dsimp at W O Y;exact⟨by omega,by rw[O]; simp,fun _=>Z (.inl hk),by omega⟩
theorem jF_ (T:List Pg) (f h r:Nat) (lo hi:ByteArray) (st:WS) (A:T[h]? =some p):cC_ T (f+1) h r lo hi st=(match okD p h lo hi st with
 | false=>none
 | true=>match p.leaf with
  | true=>leafD p r ⟨st.met.set h true,st.deep,st.count⟩
  | false=>ga_ (fun k i s=>cC_ T f k.toNat (r+1) (loK p lo i) (hiK p hi i) s) p.kids 0 ⟨st.met.set h true,st.deep,st.count⟩):=by
 rw[cC_,A]
end Go.Am
