import Derived.Test.YtjbgjfikgpffmaaGreatM2
import Derived.OpenShut
import Derived.ShutString
import Derived.ChangeOld
import Derived.ProofKit
import Derived.WalkKit
set_option linter.all false
set_option autoImplicit true
set_option relaxedAutoImplicit true
set_option maxRecDepth 100000
namespace Go.Am
open List
open Go.Proofs.Tryz
variable{E:Nat->Sm}{k:Nat}{H:Hp}{Q:Post}{U X Y Z u w x x1 y z:Pl}{D L M N O l m n n1 o:Nat}{I g h i j:Int}{C b b1 b2 c d:Bool}{R S e r s t:ByteArray}{A a:Option Nat}{p q:List (Nat×Nat)}{F:Sm}
def aQ_.cx:Cx:=⟨tys,[],[(2000000,[0])],[],[],aw_,[.tmp 6]⟩
def aQ_:=fF aQ_.cx f228
theorem h3_:as_ aQ_.cx f228 (k+1) [nL x n 1,i,j] H Q=ch 0 (nI n) (dm 0 j (leI 0 i) (chk (leN (tN i) (tN j)&&(leN (tN j) (tN (nI n))&&(leN (tN (nI n)) n&&nO_ H x (tN (nI n)*1)))) (bk i j (dE Q x n 1 H) (ch 0 i (fd (leN 0 (tN i)&&(leN (tN i) n||kk_ H x (tN i*1))) (dm 0 j (leN (tN j) n) (aN (cV H (shf x (tN j*1)) ((n-tN j)*1) H 9 1 16 (shf x 0) (tN i-0) (n-tN j) (λa b c=>ch 0 (nI n) (dm 0 (nI b) (leN (tN (nI b)) (tN (nI n))&&(leN (tN (nI n)) b||kk_ c a (tN (nI n)*1))) (aN (clr c (shf a (tN (nI b)*1)) (tN (nI n)-tN (nI b)) [.str (mkS [])] (λc=>dE Q a b 1 c))))))))))))):=zz
theorem ft_:am_ prog 228 (aQ_):=sO eN nO func228
def dm_.cx:Cx:=⟨tys,[],[],[(4,[5,6,7])],[(227,e2_)],aw_,[.cell 6 100]⟩
def dm_:=fF dm_.cx f246
def dm_.l4 k a b c d e f g h i j l m n o p q r s t u v w x y:=aR_ (dm_.cx) f246 4 k (B 5 (.bx [.bool a,.bool b,.sl c d 1,.sl e f 1,.sl g h 1]::.bx [.bool i,.bool j,.sl l m 1,.sl n o 1,.sl p q 1]::.bx [.bool r,.bool s,.sl t u 1,.sl v w 1,.sl x y 1]::B 30 []))
theorem ze_:as_ dm_.cx f246 (k+1) [.agg [b,c,.sl x n 1,.sl y m 1,.sl z l 1],s,.agg [C,d,.sl u o 1,.sl w N 1,.sl X M 1]] H Q=bj e2_ [.agg [b,c,.sl x n 1,.sl y m 1,.sl z l 1]] H λa b=>cw b 1 1 1 λb e f g h i j l=>aK c (dG a 9 1 16 f g [s] (λa c f=>dm_.l4 k C d u o w N X M false false none 0 none 0 none 0 b e a c h i j l f Q)) (dm_.l4 k C d u o w N X M false false none 0 none 0 none 0 b e f g h i j l a Q):=zz
theorem dm_.l4_eq:dm_.l4 (k+1) b c x n y m z l C d u o w N X M b1 b2 Y L Z O U D H Q=aN (cV H x (n*1) H 9 1 16 Y L n (λa b c=>aN (cV c y (m*1) c 9 1 16 Z O m (λc d e=>aN (cV e z (l*1) e 3 1 8 U D l (λe f g=>eH Q [b1,b2,.sl a b 1,.sl c d 1,.sl e f 1] g)))))):=zz
theorem qL_:am_ prog 246 (dm_):=sO (eZ lO_ func227 eN) nO func246
def bG_.cx:Cx:=⟨tys,[],[],[],[],aw_,[.tmp 2]⟩
def bG_:=fF bG_.cx f269
theorem iV_:as_ bG_.cx f269 (k+1) [nL x n 1] H Q=ch 0 (nI n) (dm 0 (nI n) (leN 0 (tN (nI n))&&(leN (tN (nI n)) (tN (nI n))&&(leN (tN (nI n)) n&&nO_ H x (tN (nI n)*1)))) (dE Q (shf x 0) (tN (nI n)-0) 1 H)):=zz
theorem iS_:am_ prog 269 (bG_):=sO eN nO func269
def cZ_.cx:Cx:=⟨tys,[],[],[],[],aw_,[.tmp 2]⟩
def cZ_:=fF cZ_.cx f270
theorem ly_:as_ cZ_.cx f270 (k+1) [nL x n 1] H Q=ch 0 (nI n) (dm 0 (nI n) (leN 0 (tN (nI n))&&(leN (tN (nI n)) (tN (nI n))&&(leN (tN (nI n)) n&&nO_ H x (tN (nI n)*1)))) (dE Q (shf x 0) (tN (nI n)-0) 1 H)):=zz
theorem k7_:am_ prog 270 (cZ_):=sO eN nO func270
def ih_.cx:Cx:=⟨tys,[],[],[],[(268,g7_),(246,dm_),(269,bG_),(270,cZ_)],aw_,[.cell 6 100,.tmp 7]⟩
def ih_:=fF ih_.cx f244
theorem zH_:as_ ih_.cx f244 (k+1) [.agg [b,c,.sl x n 1,.sl y m 1,.sl z l 1],s,.agg [C,d,.sl u o 1,.sl w N 1,.sl X M 1]] H Q=dY g7_ [.agg [b,c,.sl x n 1,.sl y m 1,.sl z l 1]] H Q [.a [false,false,.sl none 0 1,.sl none 0 1,.sl none 0 1],nN 900] g7_ [.agg [C,d,.sl u o 1,.sl w N 1,.sl X M 1]] Q λa=>aK (eqB c d) (ax Q [.a [false,false,.sl none 0 1,.sl none 0 1,.sl none 0 1],nN 900] a) (bj dm_ [.agg [b,c,.sl x n 1,.sl y m 1,.sl z l 1],s,.agg [C,d,.sl u o 1,.sl w N 1,.sl X M 1]] a (λa b=>cw b 1 1 1 λb c d e f g h i=>bq g7_ [.agg [b,c,.sl d e 1,.sl f g 1,.sl h i 1]] a Q [.a [false,false,.sl none 0 1,.sl none 0 1,.sl none 0 1],nN 900] λa=>aC bG_ [nL d e 1] a 1 λa d e=>aC bG_ [nL f g 1] a 1 λa f g=>aC cZ_ [nL h i 1] a 1 λa h i=>ax Q [.a [b,c,.sl d e 1,.sl f g 1,.sl h i 1],nN 0] a)):=zz
theorem Aa_:am_ prog 244 (ih_):=sO (eZ tJ_ func268 (eZ qL_ func246 (eZ iS_ func269 (eZ k7_ func270 eN)))) nO func244
def b8_.cx:Cx:=⟨tys,[],[(2000000,[0])],[],[],aw_,[.tmp 6]⟩
def b8_:=fF b8_.cx f245
theorem kh_:as_ b8_.cx f245 (k+1) [nL x n 1,i,j] H Q=ch 0 (nI n) (dm 0 j (leI 0 i) (chk (leN (tN i) (tN j)&&(leN (tN j) (tN (nI n))&&(leN (tN (nI n)) n&&nO_ H x (tN (nI n)*1)))) (bk i j (dE Q x n 1 H) (ch 0 i (fd (leN 0 (tN i)&&(leN (tN i) n||kk_ H x (tN i*1))) (dm 0 j (leN (tN j) n) (aN (cV H (shf x (tN j*1)) ((n-tN j)*1) H 3 1 8 (shf x 0) (tN i-0) (n-tN j) (λa b c=>ch 0 (nI n) (dm 0 (nI b) (leN (tN (nI b)) (tN (nI n))&&(leN (tN (nI n)) b||kk_ c a (tN (nI n)*1))) (aN (clr c (shf a (tN (nI b)*1)) (tN (nI n)-tN (nI b)) [.int .i64 0] (λc=>dE Q a b 1 c))))))))))))):=zz
theorem ki_:am_ prog 245 (b8_):=sO eN nO func245
def h1_.cx:Cx:=⟨tys,[],[],[],[(227,e2_)],aw_,[.cell 4 100,.tmp 5,.cell 6 100]⟩
def h1_:=fF h1_.cx f247
theorem AQ_:as_ h1_.cx f247 (k+1) [.agg [b,c,.sl x n 1,.sl y m 1,.sl z l 1],i] H Q=bD (leI 0 i&&ltI i (nI n)) x H (tN i*1) λa d e=>bj e2_ [.agg [b,c,.sl x n 1,.sl y m 1,.sl z l 1]] H λf g=>cw g 1 1 1 λg h j o p q r s=>ah f a (d+tN i*1) λt=>eqv e t (bj e2_ [.agg [b,c,.sl x n 1,.sl y m 1,.sl z l 1]] f (λb f=>cw f 1 1 1 λf l m n t u v w=>ah b a (d+tN i*1) λa=>eqv e a (ch 0 i (chk (leN 0 (tN i)&&(leN (tN i) o||kk_ b j (tN i*1))) (cd_ c (ch 0 i (fd (leN 0 (tN i)&&(leN (tN i) q||kk_ b p (tN i*1))) (dm 0 i (leN (tN i) n) (ch 0 i (chk (leN (tN i) u) (ax Q [.a [g,h,.sl (shf j 0) (tN i-0) 1,.sl (shf p 0) (tN i-0) 1,.sl r s 1],e,.a [f,l,.sl (shf m (tN i*1)) (n-tN i) 1,.sl (shf t (tN i*1)) (u-tN i) 1,.sl v w 1]] b)))))) (ch 0 (ac_ .i64 (i+1)) (fd (leN 0 (tN (ac_ .i64 (i+1)))&&(leN (tN (ac_ .i64 (i+1))) s||kk_ b r (tN (ac_ .i64 (i+1))*1))) (dm 0 (ac_ .i64 (i+1)) (leN (tN (ac_ .i64 (i+1))) n) (ch 0 (ac_ .i64 (i+1)) (chk (leN (tN (ac_ .i64 (i+1))) w) (ax Q [.a [g,h,.sl (shf j 0) (tN i-0) 1,.sl p q 1,.sl (shf r 0) (tN (ac_ .i64 (i+1))-0) 1],e,.a [f,l,.sl (shf m (tN (ac_ .i64 (i+1))*1)) (n-tN (ac_ .i64 (i+1))) 1,.sl t u 1,.sl (shf v (tN (ac_ .i64 (i+1))*1)) (w-tN (ac_ .i64 (i+1))) 1]] b))))))))))):=zz
theorem tQ_:am_ prog 247 (h1_):=sO (eZ lO_ func227 eN) nO func247
def dx_.cx:Cx:=⟨tys,[],[],[],[(244,ih_),(228,aQ_),(245,b8_),(246,dm_),(247,h1_)],aw_,[]⟩
def dx_:=fF dx_.cx f229
theorem n1_:as_ dx_.cx f229 (k+1) [x,y,i] H Q=pS y λa b=>dn H a (b+4) 1 0 i i H (tN i*1) λa=>pS y λb c=>dn H b (c+4) 1 0 (ac_ .i64 (i+1)) (ac_ .i64 (i+1)) H (tN (ac_ .i64 (i+1))*1) λb=>cD x H 5 0 a a λc d=>aE H c (d+tN a*5) λe=>aE H c (d+tN a*5+1) λf=>bg H c (d+tN a*5+1+1) 1 H c (d+tN a*5+1+1+1) 1 λg h j l=>dN H c (d+tN a*5+1+1+1+1) λc d=>eM y H 1 0 i i λm n=>ah H m (n+tN i*1) λm=>cD x H 5 0 b b λn o=>aE H n (o+tN b*5) λp=>aE H n (o+tN b*5+1) λq=>bg H n (o+tN b*5+1+1) 1 H n (o+tN b*5+1+1+1) 1 λr s t u=>dN H n (o+tN b*5+1+1+1+1) λn o=>bh ih_ [.agg [e,f,.sl g h 1,.sl j l 1,.sl c d 1],m,.agg [p,q,.sl r s 1,.sl t u 1,.sl n o 1]] H λc d e=>cw e 1 1 1 λe f g h j l m n=>bf d λd=>bk d 0 (bw x c 5 (λd o=>bw x c 5 λp q=>bI (leI 0 a&&ltI a (nI o)) d c (tN a*5) e (tN a*5) f (tN a*5) (.sl g h 1) (tN a*5) (.sl j l 1) (tN a*5) (.sl m n 1) λa=>bI (leI 0 b&&ltI b (nI q)) p a (tN b*5) false (tN b*5) false (tN b*5) (.sl none 0 1) (tN b*5) (.sl none 0 1) (tN b*5) (.sl none 0 1) λa=>cI y a 1 λb c=>pS y λd e=>dN a d (e+4) λf g=>aC aQ_ [nL b c 1,i,ac_ .i64 (i+1)] a 1 λa b c=>cz a d (e+4) 1 (nL f g 1) (aC b8_ [nL f g 1,ac_ .i64 (i+1),ac_ .i64 (i+2)] a 1 (λa d e=>pS y λf g=>du a f (g+2) b c 1 λa=>pS y λb c=>bt a b (c+4) (.sl d e 1) Q [])))) (cD x c 5 0 a a (λd e=>aE c d (e+tN a*5) λf=>aE c d (e+tN a*5+1) λg=>bg c d (e+tN a*5+1+1) 1 c d (e+tN a*5+1+1+1) 1 λh j l m=>dN c d (e+tN a*5+1+1+1+1) λd e=>eM y c 1 0 i i λn o=>ah c n (o+tN i*1) λn=>cD x c 5 0 b b λo p=>aE c o (p+tN b*5) λq=>aE c o (p+tN b*5+1) λr=>bg c o (p+tN b*5+1+1) 1 c o (p+tN b*5+1+1+1) 1 λs t u v=>dN c o (p+tN b*5+1+1+1+1) λo p=>bj dm_ [.agg [f,g,.sl h j 1,.sl l m 1,.sl d e 1],n,.agg [q,r,.sl s t 1,.sl u v 1,.sl o p 1]] c λc d=>cw d 1 1 1 λd e f g h j l m=>dq x c 5 λn o p q=>pS y λr s=>dN c r (s+2) λt u=>dq x c 5 λv w x y=>bh h1_ [.agg [d,e,.sl f g 1,.sl h j 1,.sl l m 1],ac_ .i64 (Int.tdiv (nI g) 2)] c λc d e=>cw e 1 1 1 λe f g h j l m z=>af d λd A=>dS A λA=>ba d λd C=>cw C 1 1 1 λC D F G I J L M=>uE d (bN c v (w+0) 5 (nL x y 5) (cz c r (s+2) 1 (nL t u 1) (bN c n (o+0) 5 (nL p q 5) (bI (leI 0 a&&ltI a (nI q)) p c (tN a*5) e (tN a*5) f (tN a*5) (.sl g h 1) (tN a*5) (.sl j l 1) (tN a*5) (.sl m z 1) (λa=>aB (leI 0 i&&ltI i (nI u)) t λc d=>wr a c (d+tN i*1) A λa=>bH (leI 0 b&&ltI b (nI y)) x a (tN b*5) C (tN b*5) D (tN b*5) (.sl F G 1) (tN b*5) (.sl I J 1) λa c d=>bt d a (c+tN b*5+1+1+1+1) (.sl L M 1) Q []))))))):=zz
theorem os_:am_ prog 229 (dx_):=sO (eZ Aa_ func244 (eZ ft_ func228 (eZ ki_ func245 (eZ qL_ func246 (eZ tQ_ func247 eN))))) nO func229
def a1_.cx S:=(⟨tys,[],[],[],[(226,cx_),(228,aQ_),(225,gJ_),(196,S),(229,dx_)],aw_,[]⟩:Cx)
def a1_.st S:=fF (a1_.cx S) f196
theorem n5_:as_ (a1_.cx F) f196 (k+1) [x,i,s] H Q=cD x H 5 0 i i λa b=>dh H a (b+tN i*5+1) (dN H a (b+tN i*5+2) (λc d=>bA cx_ [nL c d 1,s] H λc d e=>aV d λd _=>uE d (bg c a (b+tN i*5+2) 1 c a (b+tN i*5+3) 1 (λd f g h=>aC aQ_ [nL d f 1,e,ac_ .i64 (e+1)] c 1 λc d f=>cz c a (b+tN i*5+3) 1 (nL g h 1) (aC aQ_ [nL g h 1,e,ac_ .i64 (e+1)] c 1 (λc e g=>aF c a (b+tN i*5+2) (.sl d f 1) a (b+tN i*5+3) (.sl e g 1) λa=>ax Q [] a)))))) (aG gJ_ [.g (.ptr (some (a,b+tN i*5))),s] H (λc d=>dn c a (b+tN i*5+4) 1 0 d d c (tN d*1) λe=>cl F [x,e,s] c λ_ c=>bw x c 5 λe f=>dn c a (b+tN i*5+4) 1 0 d d c (tN d*1) λg=>aB (leI 0 g&&ltI g (nI f)) e λe f=>dN c e (f+tN g*5+2) λ_ e=>aw (nI e) 2 (dN c a (b+tN i*5+2) (λ_ e=>dK dx_ [x,.g (.ptr (some (a,b+tN i*5))),mnI d (ac_ .i64 (nI e-1))] c Q [])) (ax Q [] c))):=zz
theorem a1_.st_ok(S:Sm)(hS:c6_ prog 196 S):am_ prog 196 (a1_.st S):=mg_.sound (cx:=a1_.cx S) rfl (eZ jm_ func226 (eZ ft_ func228 (eZ ne_ func225 (dL_.cons hS (eZ os_ func229 eN))))) nO func196 rfl
def a1_.at:Nat->Sm
 |0=>λ_ _ _=>False
 |n+1=>a1_.st (a1_.at n)
def a1_:Sm:=λxs H Q=>∃n,a1_.at n xs H Q
theorem a1_.at_ok:∀n,am_ prog 196 (a1_.at n)
 |0=>λ_ _ _ h=>h.elim
 |n+1=>a1_.st_ok _ ((a1_.at_ok n).c ⟨_,func196,by kernel_rfl,by kernel_rfl⟩)
theorem nn_:am_ prog 196 (a1_):=am_.ex (a1_.at_ok)
def dz_.cx:Cx:=⟨tys,[],[],[],[],aw_,[]⟩
def dz_:=fF dz_.cx f197
theorem od_:as_ dz_.cx f197 (k+1) [x] H Q=bw x H 5 λa b=>bJ (leI 0 0&&ltI 0 (nI b)) a H (tN 0*5) λa b _=>aE H a (b+tN 0*5+1) λc=>dN H a (b+tN 0*5+1+1) λ_ d=>dN H a (b+tN 0*5+1+1+1) λ_ _=>dN H a (b+tN 0*5+1+1+1+1) λa b=>aK c (eO d 0 (bw x H 5 (λc d=>bw x H 5 λe f=>aJ (leI 0 0&&ltI 0 (nI b)) a H (tN 0*1) λg=>bw x H 5 λh i=>aJ (leI 0 0&&ltI 0 (nI b)) a H (tN 0*1) λa=>cK (leI 0 a&&ltI a (nI i)) h H (tN a*5) H (tN a*5) H (tN a*5) 1 H (tN a*5) 1 H (tN a*5) 1 (leI 0 0&&ltI 0 (nI d)) c H (tN 0*5) (tN 0*5) (tN 0*5) (tN 0*5) (tN 0*5) λa=>bH (leI 0 g&&ltI g (nI f)) e a (tN g*5) false (tN g*5) false (tN g*5) (.sl none 0 1) (tN g*5) (.sl none 0 1) λa b c=>bt c a (b+tN g*5+1+1+1+1) (.sl none 0 1) Q [])) (ax Q [] H)) (ax Q [] H):=zz
theorem oj_:am_ prog 197 (dz_):=sO eN nO func197
def cY_.cx:Cx:=⟨tys,[25],[],[(8,[4,8,10,25])],[(194,dq_),(195,cz_),(196,a1_),(197,dz_)],aw_,[.cell 4 24,.tmp 5,.tmp 6]⟩
def cY_:=fF cY_.cx f160
def cY_.l8 k a b c d e f g:=aR_ (cY_.cx) f160 8 k (B 4 (.bx [.sl a b 5]::B 3 (gB c::.bad::.g (.ptr (some (d,e)))::B 14 (.g (.ptr (some (f,g)))::B 12 []))))
theorem wZ_:as_ cY_.cx f160 (k+1) [.agg [.sl x n 5],s] H Q=bz dq_ [.agg [.sl x n 5],s] H λa b _=>aV b λb c=>bf b λb=>cq b 0 Q [.a [.sl none 0 5],false,nN 1300] a (bO cz_ [.agg [.sl x n 5]] a 5 (λa b d=>cd_ c (cl a1_ [.g (.ptr (some (ln a,0))),nN 0,s] (pu a (.row true 242 [.sl b d 5])) (λ_ b=>cl dz_ [.g (.ptr (some (ln a,0)))] b λ_ b=>cY_.l8 k none 0 c (ln a) 0 (ln a) 0 b Q)) (cY_.l8 k none 0 c (ln a) 0 (ln a) 0 (pu a (.row true 242 [.sl b d 5])) Q))):=zz
theorem cY_.l8_eq:cY_.l8 (k+1) x n b m l o N H Q=aa H m (l+0) 5 λa c=>ax Q [.a [.sl a c 5],b,nN 0] H:=zz
theorem wM_:am_ prog 160 (cY_):=sO (eZ rB_ func194 (eZ pk_ func195 (eZ nn_ func196 (eZ oj_ func197 eN)))) nO func160
def bi_.cx E:=(⟨tys,[1],[],[],[],E,[.tmp 2]⟩:Cx)
def bi_ E:=fF (bi_.cx E) f162
theorem fK_:as_ (bi_.cx E) f162 (k+1) [.g (.map a)] H Q=cM Q (.fn 200 [(ln H,0)]) (pu H (.row true 206 [.map a])):=zz
theorem fJ_(E)(h:eE E):am_ prog 162 (bi_ E):=sO eN h func162
def bK_.cx:Cx:=⟨tys,[],[(3,[3,9,10,11])],[],[],aw_,[.tmp 2]⟩
def bK_:=fF bK_.cx f204
def bK_.l3 k a b c d e:=aR_ (bK_.cx) f204 3 k (B 3 (gI a::B 5 (nL b c 5::gI d::gI e::B 12 [])))
theorem qz_:as_ bK_.cx f204 (k+1) [x] H Q=bw x H 5 λa b=>bK_.l3 k 0 a b (nI b) 0 H Q:=zz
theorem bK_.l3_eq:bK_.l3 (k+1) i x n j h H Q=aw h j (bJ (leI 0 h&&ltI h (nI n)) x H (tN h*5) (λa b _=>aE H a (b+tN h*5+1) λc=>dN H a (b+tN h*5+1+1) λ_ d=>dN H a (b+tN h*5+1+1+1) λ_ _=>dN H a (b+tN h*5+1+1+1+1) λ_ _=>cd_ c (bK_.l3 k (ac_ .i64 (i+nI d)) x n j (ac_ .i64 (h+1)) H Q) (bK_.l3 k i x n j (ac_ .i64 (h+1)) H Q))) (Q i H):=zz
theorem rE_:am_ prog 204 (bK_):=sO eN nO func204
def eB_.cx:Cx:=⟨tys,[],[],[],[],aw_,[]⟩
def eB_:=fF eB_.cx f341
theorem jh_:as_ eB_.cx f341 (k+1) [x,.g (.iface 3 (.int .i64 i))] H Q=ca x H 1 λa b=>dX 3 (.iface 3 (.int .i64 i)) λc=>ai c λc=>dG H 3 1 8 a b [c] λa b c=>pS x λd e=>bt c d e (.sl a b 1) Q []:=zz
theorem oQ_:am_ prog 341 (eB_):=sO eN nO func341
def db_.cx:Cx:=⟨tys,[],[],[],[],aw_,[.tmp 2]⟩
def db_:=fF db_.cx f337
theorem jU_:am_ prog 337 (db_):=sO eN nO func337
def cI_.cx:Cx:=⟨tys,[],[],[],[],aw_,[.tmp 6]⟩
def cI_:=fF cI_.cx f338
theorem ph_:as_ cI_.cx f338 (k+1) [nL x n 1,i,j] H Q=aJ (leI 0 i&&ltI i (nI n)) x H (tN i*1) λa=>aJ (leI 0 j&&ltI j (nI n)) x H (tN j*1) λb=>cN Q (ltI a b) H:=zz
theorem jg_:am_ prog 338 (cI_):=sO eN nO func338
def cp_.cx:Cx:=⟨tys,[],[],[],[],aw_,[]⟩
def cp_:=fF cp_.cx f339
theorem o9_:as_ cp_.cx f339 (k+1) [nL x n 1,i,j] H Q=aJ (leI 0 j&&ltI j (nI n)) x H (tN j*1) λa=>aJ (leI 0 i&&ltI i (nI n)) x H (tN i*1) λb=>aB (leI 0 i&&ltI i (nI n)) x λc d=>wr H c (d+tN i*1) a λa=>aB (leI 0 j&&ltI j (nI n)) x λc d=>bt a c (d+tN j*1) b Q []:=zz
theorem g1_:am_ prog 339 (cp_):=sO eN nO func339
def gg_.cx:Cx:=⟨tys,[],[(0,[0,1])],[],[(338,cI_),(339,cp_)],aw_,[]⟩
def gg_:=fF gg_.cx f234
def gg_.l0 k a b:=aR_ (gg_.cx) f234 0 k (.g (.iface 252 (.ptr a))::gI b::B 21 [])
theorem gg_.l0_eq:gg_.l0 (k+1) x i H Q=bk (ac_ .i64 (Int.tdiv (ac_ .i64 (i-1)) 2)) i (ax Q [] H) (ca x H 1 (λa b=>bq cI_ [nL a b 1,i,ac_ .i64 (Int.tdiv (ac_ .i64 (i-1)) 2)] H Q [] λa=>ca x a 1 λb c=>cl cp_ [nL b c 1,ac_ .i64 (Int.tdiv (ac_ .i64 (i-1)) 2),i] a λ_ a=>gg_.l0 k x (ac_ .i64 (Int.tdiv (ac_ .i64 (i-1)) 2)) a Q)):=zz
theorem CM_:am_ prog 234 (gg_):=sO (eZ jg_ func338 (eZ g1_ func339 eN)) nO func234
def if_.cx:Cx:=⟨tys,[],[],[],[(341,eB_),(337,db_),(234,gg_)],aw_,[]⟩
def if_:=fF if_.cx f205
theorem zW_:as_ if_.cx f205 (k+1) [.g (.iface 252 (.ptr x)),.g (.iface 3 (.int .i64 i))] H Q=cl eB_ [x,.g (.iface 3 (.int .i64 i))] H λ_ a=>ca x a 1 λb c=>aG db_ [nL b c 1] a λa b=>dK gg_ [.g (.iface 252 (.ptr x)),ac_ .i64 (b-1)] a Q []:=zz
theorem Ad_:am_ prog 205 (if_):=sO (eZ oQ_ func341 (eZ jU_ func337 (eZ CM_ func234 eN))) nO func205
def di_.cx:Cx:=⟨tys,[],[],[(6,[1,2,4,6])],[(283,hu_),(247,h1_)],aw_,[.cell 2 100,.tmp 3,.cell 4 100,.tmp 5]⟩
def di_:=fF di_.cx f265
def di_.l6 k a b c d e f g h i j l m n o p q r s t u v w x y z:=aR_ (di_.cx) f265 6 k (.bad::.bx [.bool a,.bool b,.sl c d 1,.sl e f 1,.sl g h 1]::.bx [.bool i,.bool j,.sl l m 1,.sl n o 1,.sl p q 1]::.bad::.bx [.bool r,.bool s,.sl t u 1,.sl v w 1,.sl x y 1]::.bad::gI z::B 26 [])
theorem xJ_:as_ di_.cx f265 (k+1) [.agg [b,c,.sl x n 1,.sl y m 1,.sl z l 1]] H Q=cq (nI n) 5 Q [.a [false,false,.sl none 0 1,.sl none 0 1,.sl none 0 1],mkS [],.a [false,false,.sl none 0 1,.sl none 0 1,.sl none 0 1],nN 900] H (bq hu_ [.agg [b,c,.sl x n 1,.sl y m 1,.sl z l 1]] H Q [.a [false,false,.sl none 0 1,.sl none 0 1,.sl none 0 1],mkS [],.a [false,false,.sl none 0 1,.sl none 0 1,.sl none 0 1],nN 900] (λa=>cd_ c (di_.l6 k b c x n y m z l false false none 0 none 0 none 0 false false none 0 none 0 none 0 3 a Q) (di_.l6 k b c x n y m z l false false none 0 none 0 none 0 false false none 0 none 0 none 0 2 a Q))):=zz
theorem di_.l6_eq:di_.l6 (k+1) b c x n y m z l C d u o w N X M b1 b2 Y L Z O U D i H Q=bh h1_ [.agg [b,c,.sl x n 1,.sl y m 1,.sl z l 1],i] H λa b c=>cw c 1 1 1 λc d e f g h i j=>af b λb l=>dS l λl=>ba b λb m=>cw m 1 1 1 λm n o p q r s t=>uE b (ax Q [.a [c,d,.sl e f 1,.sl g h 1,.sl i j 1],l,.a [m,n,.sl o p 1,.sl q r 1,.sl s t 1],nN 0] a):=zz
theorem xM_:am_ prog 265 (di_):=sO (eZ rR_ func283 (eZ tQ_ func247 eN)) nO func265
def cf_.cx:Cx:=⟨tys,[],[(2,[0,1,2,7])],[(8,[0,1,2,7,9])],[(338,cI_),(339,cp_)],aw_,[.tmp 6]⟩
def cf_:=fF cf_.cx f266
def cf_.l2 k a b c d:=aR_ (cf_.cx) f266 2 k (.g (.iface 252 (.ptr a))::gI b::gI c::B 4 (gI d::B 40 []))
def cf_.l8 k a b c d e:=aR_ (cf_.cx) f266 8 k (.g (.iface 252 (.ptr a))::gI b::gI c::B 4 (gI d::.bad::gI e::B 38 []))
theorem zl_:as_ cf_.cx f266 (k+1) [.g (.iface 252 (.ptr x)),i,j] H Q=cf_.l2 k x i j i H Q:=zz
theorem cf_.l2_eq:cf_.l2 (k+1) x i j h H Q=aZ j (ac_ .i64 (ac_ .i64 (2*h)+1)) (cN Q (ltI i h) H) (aw (ac_ .i64 (ac_ .i64 (2*h)+1)) 0 (cN Q (ltI i h) H) (aw (ac_ .i64 (ac_ .i64 (ac_ .i64 (2*h)+1)+1)) j (ca x H 1 (λa b=>aT cI_ [nL a b 1,ac_ .i64 (ac_ .i64 (ac_ .i64 (2*h)+1)+1),ac_ .i64 (ac_ .i64 (2*h)+1)] H λa b=>cd_ b (cf_.l8 k x i j h (ac_ .i64 (ac_ .i64 (ac_ .i64 (2*h)+1)+1)) a Q) (cf_.l8 k x i j h (ac_ .i64 (ac_ .i64 (2*h)+1)) a Q))) (cf_.l8 k x i j h (ac_ .i64 (ac_ .i64 (2*h)+1)) H Q))):=zz
theorem cf_.l8_eq:cf_.l8 (k+1) x i j h g H Q=ca x H 1 λa b=>ac cI_ [nL a b 1,g,h] H λa b=>aj b (cN Q (ltI i h) a) (ca x a 1 (λb c=>cl cp_ [nL b c 1,h,g] a λ_ a=>cf_.l2 k x i j g a Q)):=zz
theorem zY_:am_ prog 266 (cf_):=sO (eZ jg_ func338 (eZ g1_ func339 eN)) nO func266
def eh_.cx:Cx:=⟨tys,[],[],[],[],aw_,[.tmp 2]⟩
def eh_:=fF eh_.cx f340
theorem qp_:as_ eh_.cx f340 (k+1) [x] H Q=ca x H 1 λ_ a=>pS x λb c=>dn H b c 1 0 (ac_ .i64 (nI a-1)) (ac_ .i64 (nI a-1)) H (tN (ac_ .i64 (nI a-1))*1) λb=>ca x H 1 λc d=>ch 0 (ac_ .i64 (nI a-1)) (chk (leN 0 (tN (ac_ .i64 (nI a-1)))&&(leN (tN (ac_ .i64 (nI a-1))) d||kk_ H c (tN (ac_ .i64 (nI a-1))*1))) (pS x (λd e=>du H d e (shf c 0) (tN (ac_ .i64 (nI a-1))-0) 1 λa=>cM Q (.iface 3 (.int .i64 b)) a))):=zz
theorem p5_:am_ prog 340 (eh_):=sO eN nO func340
def iL_.cx:Cx:=⟨tys,[],[],[],[(337,db_),(339,cp_),(266,cf_),(340,eh_)],aw_,[.tmp 2]⟩
def iL_:=fF iL_.cx f239
theorem BU_:as_ iL_.cx f239 (k+1) [.g (.iface 252 (.ptr x))] H Q=ca x H 1 λa b=>aG db_ [nL a b 1] H λa b=>ca x a 1 λc d=>cl cp_ [nL c d 1,nN 0,ac_ .i64 (b-1)] a λ_ a=>aT cf_ [.g (.iface 252 (.ptr x)),nN 0,ac_ .i64 (b-1)] a λa _=>ac eh_ [x] a λa b=>Q b a:=zz
theorem AF_:am_ prog 239 (iL_):=sO (eZ jU_ func337 (eZ g1_ func339 (eZ zY_ func266 (eZ p5_ func340 eN)))) nO func239
def cb_.cx:Cx:=⟨tys,[],[],[],[(239,iL_)],aw_,[.tmp 4]⟩
def cb_:=fF cb_.cx f207
theorem mR_:as_ cb_.cx f207 (k+1) [x,.agg [b,c,.sl y n 1,.sl z m 1,.sl u l 1]] H Q=pS x λa d=>ac iL_ [.g (.iface 252 (.ptr (some (a,d+1))))] H λa d=>dX 3 d λd=>ai d λd=>cD x a 5 0 d d λe f=>aF a e (f+tN d*5) b e (f+tN d*5+1) c λa=>aF a e (f+tN d*5+1+1) (.sl y n 1) e (f+tN d*5+1+1+1) (.sl z m 1) λa=>du a e (f+tN d*5+1+1+1+1) u l 1 λa=>Q d a:=zz
theorem h5_:am_ prog 207 (cb_):=sO (eZ AF_ func239 eN) nO func207
def bQ_.cx:Cx:=⟨tys,[36],[],[],[(265,di_),(207,cb_)],aw_,[.tmp 4]⟩
def bQ_:=fF bQ_.cx f238
theorem la_:as_ bQ_.cx f238 (k+1) [x,i] H Q=cD x H 5 0 i i λa b=>aE H a (b+tN i*5) λc=>aE H a (b+tN i*5+1) λd=>bg H a (b+tN i*5+1+1) 1 H a (b+tN i*5+1+1+1) 1 λe f g h=>dN H a (b+tN i*5+1+1+1+1) λa b=>bh di_ [.agg [c,d,.sl e f 1,.sl g h 1,.sl a b 1]] H λa b c=>cw c 1 1 1 λc d e f g h j l=>af b λb m=>dS m λm=>ba b λb n=>cw n 1 1 1 λn o p q r s t u=>bf b λb=>bc b 0 (cM Q (.ptr none) a) (cD x a 5 0 i i (λb v=>aF a b (v+tN i*5) c b (v+tN i*5+1) d λa=>aF a b (v+tN i*5+1+1) (.sl e f 1) b (v+tN i*5+1+1+1) (.sl g h 1) λa=>du a b (v+tN i*5+1+1+1+1) j l 1 λa=>aG cb_ [x,.agg [n,o,.sl p q 1,.sl r s 1,.sl t u 1]] a λa b=>cM Q (.ptr (some (ln a,0))) (pu a (.row true 257 [m,b])))):=zz
theorem hv_:am_ prog 238 (bQ_):=sO (eZ xM_ func265 (eZ h5_ func207 eN)) nO func238
def dg_.cx:Cx:=⟨tys,[],[],[],[(226,cx_),(236,slices_Insert__string_string),(238,bQ_)],aw_,[.tmp 8]⟩
def dg_:=fF dg_.cx f235
theorem mV_:as_ dg_.cx f235 (k+1) [x,i,s,t] H Q=cD x H 5 0 i i λa b=>dN H a (b+tN i*5+2) λc d=>cd cx_ [nL c d 1,s] H λc d e=>cd_ e (cQ c a (b+tN i*5+3) 1 0 d d (λa b=>wr c a (b+tN d*1) t λa=>cM Q (.ptr none) a)) (bg c a (b+tN i*5+2) 1 c a (b+tN i*5+3) 1 (λe f g h=>aC slices_Insert__string_string [nL e f 1,d,nL (some (ln c,0)) 1 1] (pu c (.row false 1000003 [s])) 1 λc e f=>cz c a (b+tN i*5+3) 1 (nL g h 1) (aC slices_Insert__string_string [nL g h 1,d,nL (some (ln c,0)) 1 1] (pu c (.row false 1000003 [t])) 1 (λc d g=>aF c a (b+tN i*5+2) (.sl e f 1) a (b+tN i*5+3) (.sl d g 1) λa=>ac bQ_ [x,i] a λa b=>dP b λb=>Q b a)))):=zz
theorem m0_:am_ prog 235 (dg_):=sO (eZ jm_ func226 (dL_.cons (fs_) (eZ hv_ func238 eN))) nO func235
def aZ_.cx S:=(⟨tys,[],[],[],[(235,dg_),(225,gJ_),(206,S),(236,slices_Insert__string_string),(237,slices_Insert__int_int),(238,bQ_)],aw_,[.tmp 8]⟩:Cx)
def aZ_.st S:=fF (aZ_.cx S) f206
theorem ol_:as_ (aZ_.cx F) f206 (k+1) [x,i,s,t] H Q=cD x H 5 0 i i λa b=>dh H a (b+tN i*5+1) (ac dg_ [x,i,s,t] H (λa b=>dP b λb=>Q b a)) (aG gJ_ [.g (.ptr (some (a,b+tN i*5))),s] H (λc d=>dn c a (b+tN i*5+4) 1 0 d d c (tN d*1) λe=>ac F [x,e,s,t] c λc e=>dP e λe=>cd_ (isNone e) (cM Q (.ptr none) c) (dN c a (b+tN i*5+2) (λf g=>pS e λh j=>ah c h (j+0) λh=>dN c a (b+tN i*5+4) λj l=>pS e λe m=>aq c e (m+1) λn=>aC slices_Insert__string_string [nL f g 1,d,nL (some (ln c,0)) 1 1] (pu c (.row false 1000003 [h])) 1 λc f g=>aq c e (m+1) λe=>eqv n e (cz c a (b+tN i*5+4) 1 (nL j l 1) (aC slices_Insert__int_int [nL j l 1,ac_ .i64 (d+1),nL (some (ln c,0)) 1 1] (pu c (.row false 1000003 [n])) 1 (λc d e=>aF c a (b+tN i*5+2) (.sl f g 1) a (b+tN i*5+4) (.sl d e 1) λa=>ac bQ_ [x,i] a λa b=>dP b λb=>Q b a))))))):=zz
theorem aZ_.st_ok(S:Sm)(hS:c6_ prog 206 S):am_ prog 206 (aZ_.st S):=mg_.sound (cx:=aZ_.cx S) rfl (eZ m0_ func235 (eZ ne_ func225 (dL_.cons hS (dL_.cons (fs_) (dL_.cons (ko_) (eZ hv_ func238 eN)))))) nO func206 rfl
def aZ_.at:Nat->Sm
 |0=>λ_ _ _=>False
 |n+1=>aZ_.st (aZ_.at n)
def aZ_:Sm:=λxs H Q=>∃n,aZ_.at n xs H Q
theorem aZ_.at_ok:∀n,am_ prog 206 (aZ_.at n)
 |0=>λ_ _ _ h=>h.elim
 |n+1=>aZ_.st_ok _ ((aZ_.at_ok n).c ⟨_,func206,by kernel_rfl,by kernel_rfl⟩)
theorem ng_:am_ prog 206 (aZ_):=am_.ex (aZ_.at_ok)
def bq_.cx:Cx:=⟨tys,[3,48,92,98],[(8,[1,2,6,11,48,52,53,54])],[],[(201,d6_),(202,dk_),(203,cq_),(194,dq_),(204,bK_),(195,cz_),(205,if_),(206,aZ_),(207,cb_)],aw_,[.cell 6 24,.tmp 7]⟩
def bq_:=fF bq_.cx f163
def bq_.l8 k a b c d e f g h i j l m:=aR_ (bq_.cx) f163 8 k (.bad::gS a::gS b::B 3 (.bx [.sl c d 5]::B 4 (.g (.ptr (some (e,f)))::B 36 (.g (.ptr (some (g,h)))::B 3 (nL i j 5::gI l::gI m::B 51 [])))))
theorem sQ_:as_ bq_.cx f163 (k+1) [.agg [.sl x n 5],s,t] H Q=aa (pu H (.row true 24 [.sl x n 5])) (ln H) 0 5 λa b=>dY d6_ [.agg [.sl a b 5]] (pu H (.row true 24 [.sl x n 5])) Q [.a [.sl none 0 5],nN 1200] dk_ [s] Q λa=>bq cq_ [t] a Q [.a [.sl none 0 5],nN 1200] λa=>aa a (ln H) 0 5 λb c=>bz dq_ [.agg [.sl b c 5],s] a λa b _=>aV b λb c=>aX b (aK c (aG bK_ [.g (.ptr (some (ln H,0)))] a (λa b=>d6 60 b Q [.a [.sl none 0 5],nN 1201] a (aa a (ln H) 0 5 (λb c=>bO cz_ [.agg [.sl b c 5]] a 5 λa b c=>aa (pu a (.row true 250 [.sl b c 5,.sl none 0 1])) (ln a) 0 5 λd e=>bq_.l8 k s t none 0 (ln a) 0 (ln a) 0 d e (nI e) 0 (pu a (.row true 250 [.sl b c 5,.sl none 0 1])) Q)))) (aa a (ln H) 0 5 (λb c=>bO cz_ [.agg [.sl b c 5]] a 5 λa b c=>aa (pu a (.row true 250 [.sl b c 5,.sl none 0 1])) (ln a) 0 5 λd e=>bq_.l8 k s t none 0 (ln a) 0 (ln a) 0 d e (nI e) 0 (pu a (.row true 250 [.sl b c 5,.sl none 0 1])) Q))):=zz
theorem bq_.l8_eq:bq_.l8 (k+1) s t x n m l o N y M i j H Q=aw j i (bK (leI 0 j&&ltI j (nI M)) y H (tN j*5) H (tN j*5) (λa b c _=>dN H a (b+tN j*5+1+1) λ_ _=>dN H a (b+tN j*5+1+1+1) λ_ _=>dN H a (b+tN j*5+1+1+1+1) λ_ _=>aK c (cl if_ [.g (.iface 252 (.ptr (some (m,l+1)))),.g (.iface 3 (.int .i64 j))] H (λ_ a=>bq_.l8 k s t x n m l o N y M i (ac_ .i64 (j+1)) a Q)) (bq_.l8 k s t x n m l o N y M i (ac_ .i64 (j+1)) H Q))) (ac aZ_ [.g (.ptr (some (m,l))),nN 0,s,t] H (λa b=>dP b λb=>aK (isNone b) (aa a m (l+0) 5 (λc d=>dU (leI 0 0&&ltI 0 (nI d)) c a (tN 0*5) a a 1 a 1 a 1 λc d e f g h i j=>aG cb_ [.g (.ptr (some (m,l))),.agg [c,d,.sl e f 1,.sl g h 1,.sl i j 1]] a λa c=>aa a m (l+0) 5 λd e=>pS b λf g=>ah a f (g+0) λh=>pS b λb i=>aq a b (i+1) λj=>Ia_ (aq (pu a (.row true 9 [h])) b (i+1) (λb=>eqv j b (bN (pu a (.row true 9 [h])) m (l+0) 5 (nL d e 5) (ah (pu (pu a (.row true 9 [h])) (.row true 3 [c,j])) f (g+0) (λb=>eqv h b (bN (pu (pu a (.row true 9 [h])) (.row true 3 [c,j])) m (l+0) 5 (nL d e 5) (bI (leI 0 0&&ltI 0 (nI e)) d (pu (pu a (.row true 9 [h])) (.row true 3 [c,j])) (tN 0*5) true (tN 0*5) false (tN 0*5) (.sl (some (ln a,0)) 1 1) (tN 0*5) (.sl none 0 1) (tN 0*5) (.sl (some (ln (pu a (.row true 9 [.str h])),0)) 2 1) (λa=>d7 a m (l+0) 5 Q (nN 0) a)))))))) (ah (pu a (.row true 3 [c,j])) f (g+0) (λf=>eqv h f (bN (pu a (.row true 3 [c,j])) m (l+0) 5 (nL d e 5) (aq (pu (pu a (.row true 3 [c,j])) (.row true 9 [h])) b (i+1) (λb=>eqv j b (bN (pu (pu a (.row true 3 [c,j])) (.row true 9 [h])) m (l+0) 5 (nL d e 5) (bI (leI 0 0&&ltI 0 (nI e)) d (pu (pu a (.row true 3 [c,j])) (.row true 9 [h])) (tN 0*5) true (tN 0*5) false (tN 0*5) (.sl (some (ln (pu a (.row true 3 [.int .i64 c,.int .i64 j])),0)) 1 1) (tN 0*5) (.sl none 0 1) (tN 0*5) (.sl (some (ln a,0)) 2 1) (λa=>d7 a m (l+0) 5 Q (nN 0) a)))))))))) (d7 a m (l+0) 5 Q (nN 0) a))):=zz
theorem sM_:am_ prog 163 (bq_):=sO (eZ jJ_ func201 (eZ kJ_ func202 (eZ it_ func203 (eZ rB_ func194 (eZ rE_ func204 (eZ pk_ func195 (eZ Ad_ func205 (eZ ng_ func206 (eZ h5_ func207 eN))))))))) nO func163
def aL_.cx E:=(⟨tys,[],[(5,[2,3,4,7,28,29,30]),(13,[2,3,4,7,59,60,61])],[],[(159,ap_),(130,hS_),(160,cY_),(162,(bi_ E)),(161,slices_Sorted_string),(163,bq_)],E,[.cell 2 24]⟩:Cx)
def aL_ E:=fF (aL_.cx E) f115
def aL_.l5 E k a b c d e f g h i j:=aR_ (aL_.cx E) f115 5 k (.bad::.bad::.bx [.sl a b 5]::.bx [.sl c d 5]::gM e::.bad::.bad::gM f::B 20 (nL g h 2::gI i::gI j::B 60 []))
def aL_.l13 E k a b c d e f g h i j:=aR_ (aL_.cx E) f115 13 k (.bad::.bad::.bx [.sl a b 5]::.bx [.sl c d 5]::gM e::.bad::.bad::gM f::B 51 (nL g h 1::gI i::gI j::B 29 []))
theorem o4_:as_ (aL_.cx E) f115 (k+1) [x] H Q=dq x H 5 λa b c d=>ac ap_ [x] H λe f=>dM f λf=>aa e a (b+0) 5 λa b=>eqv (.agg [.sl c d 5]) (.agg [.sl a b 5]) (bW hS_ [.agg [.sl c d 5]] e 2 (λa b e g=>aX b (aL_.l5 E k none 0 c d f (some (ln a)) e g (nI g) 0 (pu a (.map [] 0)) Q))):=zz
theorem aL_.l5_eq:aL_.l5 E (k+1) x n y m a A z l i j H Q=aw j i (bD (leI 0 j&&ltI j (nI l)) z H (tN j*2) (λb c d=>ah H b (c+tN j*2+1) λb=>dD H A [.str] d b λb=>cS b a [.str] d (mkS []) λc e=>dj c λ_=>aK e (bY cY_ [.agg [.sl y m 5],d] b 5 (λb c d e=>aV c λc _=>aX c (aL_.l5 E k x n d e a A z l i (ac_ .i64 (j+1)) b Q))) (aL_.l5 E k x n y m a A z l i (ac_ .i64 (j+1)) b Q))) (ac (bi_ E) [.g (.map a)] H (λb c=>aC slices_Sorted_string [c] b 1 λb c d=>aL_.l13 E k x n y m a A c d (nI d) 0 b Q)):=zz
theorem aL_.l13_eq:aL_.l13 E (k+1) x n y m a A z l i j H Q=aw j i (aH (leI 0 j&&ltI j (nI l)) z H (tN j*1) (λb=>cS H A [.str] b (mkS []) λc d=>dj c λc=>aK d (cS H a [.str] b (mkS []) (λc _=>dj c λc=>dz bq_ [.agg [.sl y m 5],b,c] H 5 λb c d=>aL_.l13 E k x n c d a A z l i (ac_ .i64 (j+1)) b Q)) (cS H a [.str] b (mkS []) (λd _=>dj d λd=>dl c d (cS H a [.str] b (mkS []) (λc _=>dj c λc=>dz bq_ [.agg [.sl y m 5],b,c] H 5 λb c d=>aL_.l13 E k x n c d a A z l i (ac_ .i64 (j+1)) b Q)) (aL_.l13 E k x n y m a A z l i (ac_ .i64 (j+1)) H Q))))) (eH Q [.sl y m 5] H):=zz
theorem o3_(E)(h:eE E):am_ prog 115 (aL_ E):=sO (eZ lZ_ func159 (eZ t9_ func130 (eZ wM_ func160 (eZ (fJ_ E h) func162 (dL_.cons (fB_) (eZ sM_ func163 eN)))))) h func115
def fN_.cx E:=(⟨tys,[],[],[],[(78,(dJ_ E)),(113,dU_),(114,bt_),(115,(aL_ E))],E,[.cell 6 24,.tmp 7]⟩:Cx)
def fN_ E:=fF (fN_.cx E) f58
theorem xO_:as_ (fN_.cx E) f58 (k+1) [.agg [.sl x n 5],.g (.fn m p),.g (.fn l q)] H Q=dk (dJ_ E) [.agg [.sl x n 5]] H λa b c=>eF b (ax Q [.a [.sl none 0 5],nN 2000] a) (cp c a 5 (λb d=>aG (E m) (cpl [.g (.sl b d 5)] p) a λa b=>cq b 0 Q [.a [.sl none 0 5],b] a (cl (E l) (cpl [.g (.ptr c)] q) a (λ_ a=>aG dU_ [c] a λa b=>aw 60 b (dk (dJ_ E) [.agg [.sl x n 5]] a (λa b c=>aV b λb _=>uE b (cl bt_ [c] a (λ_ a=>cl (E l) (cpl [.g (.ptr c)] q) a λ_ a=>bP (aL_ E) [c] a 5 Q (nN 0))))) (bP (aL_ E) [c] a 5 Q (nN 0)))))):=zz
theorem po_(E)(h:eE E):am_ prog 58 (fN_ E):=sO (eZ (uc_ E h) func78 (eZ o5_ func113 (eZ nt_ func114 (eZ (o3_ E h) func115 eN)))) h func58
def bM_.cx:Cx:=⟨tys,[],[],[],[],aw_,[.tmp 2]⟩
def bM_:=fF bM_.cx f221
theorem hi_:as_ bM_.cx f221 (k+1) [nL x n 5] H Q=cd_ (isNone x) (dE Q none 0 5 H) (aN (dJ H x (n*5) H 52 5 80 n (λa=>dE Q (some (ln H,0)) n 5 a))):=zz
theorem hs_:am_ prog 221 (bM_):=sO eN nO func221
def bA_.cx:Cx:=⟨tys,[],[],[],[],aw_,[.tmp 2]⟩
def bA_:=fF bA_.cx f137
theorem hk_:as_ bA_.cx f137 (k+1) [nL x n 3] H Q=cd_ (isNone x) (dE Q none 0 3 H) (aN (dJ H x (n*3) H 108 3 40 n (λa=>dE Q (some (ln H,0)) n 3 a))):=zz
theorem hn_:am_ prog 137 (bA_):=sO eN nO func137
def cj_.cx:Cx:=⟨tys,[],[(3,[3,8,9])],[],[(221,bM_),(137,bA_)],aw_,[.tmp 2]⟩
def cj_:=fF cj_.cx f181
def cj_.l3 k a b c d:=aR_ (cj_.cx) f181 3 k (B 3 (nL a b 5::B 4 (gI c::gI d::B 14 [])))
theorem vP_:as_ cj_.cx f181 (k+1) [nL x n 5] H Q=aC bM_ [nL x n 5] H 5 λa b c=>cj_.l3 k b c (nI c) 0 a Q:=zz
theorem cj_.l3_eq:cj_.l3 (k+1) x n i j H Q=aw j i (bV (leI 0 j&&ltI j (nI n)) x H (tN j*5) 3 (λa b=>aC bA_ [nL a b 3] H 3 λa b c=>aB (leI 0 j&&ltI j (nI n)) x λd e=>du a d (e+tN j*5+4) b c 3 λa=>cj_.l3 k x n i (ac_ .i64 (j+1)) a Q)) (dE Q x n 5 H):=zz
theorem vo_:am_ prog 181 (cj_):=sO (eZ hs_ func221 (eZ hn_ func137 eN)) nO func181
def cl_.cx:Cx:=⟨tys,[],[(4,[0,11,12,13])],[],[(135,bv_),(103,cX_),(181,cj_)],aw_,[.tmp 4,.tmp 5]⟩
def cl_:=fF cl_.cx f136
def cl_.l4 k a b c d e f:=aR_ (cl_.cx) f136 4 k (nL a b 5::B 10 (nL c d 1::gI e::gI f::B 9 []))
theorem u2_:as_ cl_.cx f136 (k+1) [nL x n 5,nL y m 1] H Q=bq bv_ [nL x n 5] H Q [.s (.sl none 0 5),nN 1900] λa=>cl_.l4 k x n y m (nI m) 0 a Q:=zz
theorem cl_.l4_eq:cl_.l4 (k+1) x n y m i j H Q=aw j i (aH (leI 0 j&&ltI j (nI m)) y H (tN j*1) (λa=>bq cX_ [a] H Q [.s (.sl none 0 5),nN 1901] λa=>cl_.l4 k x n y m i (ac_ .i64 (j+1)) a Q)) (aW cj_ [nL x n 5] H 5 Q (nN 0)):=zz
theorem un_:am_ prog 136 (cl_):=sO (eZ pw_ func135 (eZ f9_ func103 (eZ vo_ func181 eN))) nO func136
def fO_.cx:Cx:=⟨tys,[],[],[],[(136,cl_),(104,fH_)],aw_,[.tmp 4,.tmp 5,.tmp 6]⟩
def fO_:=fF fO_.cx f142
theorem uT_:as_ fO_.cx f142 (k+1) [nL x n 5,nL y m 1] H Q=bW cl_ [nL x n 5,nL y m 1] H 5 λa b c d=>bf b λb=>cq b 0 Q [.s (.sl none 0 5),nN 0,b] a (aH (leI 0 0&&ltI 0 (nI m)) y a (tN 0*1) (λb=>cd fH_ [nL c d 5,b] a λa b e=>aK e (ax Q [.s (.sl none 0 5),nN 0,nN 1903] a) (ax Q [.s (.sl c d 5),b,nN 0] a))):=zz
theorem u0_:am_ prog 142 (fO_):=sO (eZ un_ func136 (eZ lE_ func104 eN)) nO func142
def fa_.cx:Cx:=⟨tys,[],[],[],[(142,fO_),(49,df_)],aw_,[.tmp 6,.tmp 7,.tmp 8]⟩
def fa_:=fF fa_.cx f110
theorem vI_:as_ fa_.cx f110 (k+1) [nL x n 5,s,t] H Q=bW fO_ [nL x n 5,nL (some (ln H,0)) 1 1] (pu H (.row false 1000003 [s])) 5 λa b c d=>ay b λb e=>bf b λb=>cq b 0 Q [.s (.sl none 0 5),.s (.ptr none),b] a (bZ (leI 0 e&&ltI e (nI d)) c a (tN e*5) (λb=>cq b 0 Q [.s (.sl none 0 5),.s (.ptr none),nN 1905] a (bq df_ [t] a Q [.s (.sl none 0 5),.s (.ptr none),nN 1907] (λa=>aB (leI 0 e&&ltI e (nI d)) c λb f=>ax Q [.s (.sl c d 5),.s (.ptr (some (b,f+tN e*5))),nN 0] a)))):=zz
theorem n7_:am_ prog 110 (fa_):=sO (eZ u0_ func142 (eZ g8_ func49 eN)) nO func110
def ca_.cx:Cx:=⟨tys,[],[],[(11,[2,3,10,11,13])],[(110,fa_),(111,du_),(50,cF_),(112,slices_Insert__api_File_api_File)],aw_,[.tmp 8,.tmp 9]⟩
def ca_:=fF ca_.cx f57
def ca_.l11 k a b c d e f:=aR_ (ca_.cx) f57 11 k (.bad::.bad::gS a::gS b::B 6 (nL c d 5::gP e::.bad::gI f::B 59 []))
theorem uM_:as_ ca_.cx f57 (k+1) [nL x n 5,s,t,r] H Q=bW fa_ [nL x n 5,s,t] H 5 λa b c d=>af b λb e=>dP e λe=>cP b 0 Q (.s (.sl none 0 5)) a (bq du_ [r] a Q [.s (.sl none 0 5),nN 1909] (λa=>cp e a 3 λb f=>cd cF_ [nL b f 3,t] a λa b f=>aK f (cp e a 3 (λ_ g=>eO g 4 (ax Q [.s (.sl none 0 5),nN 1910] a) (aK f (cp e a 3 (λf g=>aC slices_Insert__api_File_api_File [nL f g 3,b,nL (some (ln a,0)) 1 3] (pu a (.row false 1000003 [mkS [],mkS [],false])) 3 λa f g=>pS e λh i=>du a h (i+4) f g 3 λa=>ca_.l11 k t r c d e b a Q)) (ca_.l11 k t r c d e b a Q)))) (aK f (cp e a 3 (λf g=>aC slices_Insert__api_File_api_File [nL f g 3,b,nL (some (ln a,0)) 1 3] (pu a (.row false 1000003 [mkS [],mkS [],false])) 3 λa f g=>pS e λh i=>du a h (i+4) f g 3 λa=>ca_.l11 k t r c d e b a Q)) (ca_.l11 k t r c d e b a Q)))):=zz
theorem ca_.l11_eq:ca_.l11 (k+1) s t x n y i H Q=pS y λa b=>cQ H a (b+4) 3 0 i i λa b=>aF H a (b+tN i*3) s a (b+tN i*3+1) t λc=>bt c a (b+tN i*3+1+1) true Q [.s (.sl x n 5),nN 0]:=zz
theorem uH_:am_ prog 57 (ca_):=sO (eZ n7_ func110 (eZ ib_ func111 (eZ gU_ func50 (dL_.cons (ex_) eN)))) nO func57
def fi_.cx:Cx:=⟨tys,[],[],[],[(57,ca_)],aw_,[.tmp 5]⟩
def fi_:=fF fi_.cx f56
theorem r8_:as_ fi_.cx f56 (k+1) [nL x n 5,.g (.ptr (some (m,l))),.g (.ptr (some (o,N))),.g (.ptr (some (M,L)))] H Q=cA H m l H o N λa b=>ah H M L λc=>bW ca_ [nL x n 5,a,b,c] H 5 λa b _ _=>bf b λb=>Q b a:=zz
theorem tD_:am_ prog 56 (fi_):=sO (eZ uH_ func57 eN) nO func56
def cV_.cx E:=(⟨tys,[],[(2,[0,3])],[],[],E,[.tmp 2]⟩:Cx)
def cV_ E:=fF (cV_.cx E) f139
def cV_.l2 E k a b c:=aR_ (cV_.cx E) f139 2 k (.g (.fn a b)::.bad::.bad::gI c::B 6 [])
theorem wE_:as_ (cV_.cx E) f139 (k+1) [.g (.fn n p)] H Q=cV_.l2 E k n p 1 H Q:=zz
theorem cV_.l2_eq:cV_.l2 E (k+1) n p i H Q=aT (E n) (cpl [.g (.int .i64 i)] p) H λa b=>cd_ b (cV_.l2 E k n p (ac_ .i64 (i+1)) a Q) (Q i a):=zz
theorem vj_(E)(h:eE E):am_ prog 139 (cV_ E):=sO eN h func139
def cT_.cx:Cx:=⟨tys,[],[],[],[],aw_,[.tmp 3]⟩
def cT_:=fF cT_.cx f164
theorem ls_:as_ cT_.cx f164 (k+1) [i,.g (.ptr (some (n,m)))] H Q=rd H n m λa=>dP a λa=>bv a H λa=>cS H a [.int .i64] i (.a [nN 0,mkS []]) λa b=>bm a λa _=>cR a (Q b H):=zz
theorem lo_:am_ prog 164 (cT_):=sO eN nO func164
def dd_.cx:Cx:=⟨tys,[1],[],[],[(139,(cV_ (cR_ [(164,cT_)])))],aw_,[.tmp 2]⟩
def dd_:=fF dd_.cx f117
theorem mX_:as_ dd_.cx f117 (k+1) [x] H Q=aG (cV_ (cR_ [(164,cT_)])) [.g (.fn 164 [(ln H,0)])] (pu H (.row true 115 [x])) λa b=>Q b a:=zz
theorem mK_:am_ prog 117 (dd_):=sO (dL_.cons ((vj_ (cR_ [(164,cT_)]) (gl_ (eZ lo_ func164 eN))).c ⟨_,func139,by kernel_rfl,by kernel_rfl⟩) eN) nO func117
def dR_.cx:Cx:=⟨tys,[],[],[],[],aw_,[]⟩
def dR_:=fF dR_.cx f84
theorem oU_:as_ dR_.cx f84 (k+1) [x,.agg [i,s],.agg [j,b]] H Q=bv x H λa=>dV H a [.int .i64] j (.a [nN 0,mkS []]) λa c=>cO a λa=>bv x H λd=>bQ x H λe=>CN_ H d false [.int .i64] j (.a [nN 0,mkS []]) λf g h=>bm f λf _=>cR f (Bc_ h d (nI g) (.a [ac_ .i64 (c+1),a]) (λa=>CN_ a e true [.int .i64,.str] (.a [i,s]) (.a [nN 0,false]) λa c d=>bm a λa _=>ep a (Bc_ d e (nI c) (.a [j,b]) (λa=>ax Q [] a)))):=zz
theorem o7_:am_ prog 84 (dR_):=sO eN nO func84
def bp_.cx:Cx:=⟨tys,[],[],[(4,[0,3,8])],[(116,bW_),(117,dd_),(84,dR_)],aw_,[]⟩
def bp_:=fF bp_.cx f60
def bp_.l4 k a b c d:=aR_ (bp_.cx) f60 4 k (gP a::.bad::.bad::gS b::B 4 (.bx [.int .i64 c,.str d]::B 39 []))
theorem nE_:as_ bp_.cx f60 (k+1) [x,s,t,r] H Q=bR x H λa=>dV H a [.str] s (.a [nN 0,nN 0,mkS [],mkS []]) λa b=>eu a λa _=>cR a (bQ x H (λa=>tr_ H a true [.int .i64,.str] (.a [b,t]) (.a [nN 0,false]) λa c=>bm a λa _=>ep a (cd_ c (cl bW_ [x,.agg [b,t]] H (λ_ a=>bp_.l4 k x r b t a Q)) (bp_.l4 k x r b t H Q)))):=zz
theorem bp_.l4_eq:bp_.l4 (k+1) x s i t H Q=aG dd_ [x] H λa b=>bv x a λc=>dD a c [.int .i64] b (.a [nN 0,s]) λa=>dK dR_ [x,.agg [i,t],.agg [b,true]] a Q []:=zz
theorem n3_:am_ prog 60 (bp_):=sO (eZ gb_ func116 (eZ mK_ func117 (eZ o7_ func84 eN))) nO func60
def fr_.cx:Cx:=⟨tys,[],[],[],[(60,bp_)],aw_,[]⟩
def fr_:=fF fr_.cx f59
theorem sh_:as_ fr_.cx f59 (k+1) [x,.g (.ptr (some (n,m))),.g (.ptr (some (l,o))),.g (.ptr (some (N,M)))] H Q=cA H n m H l o λa b=>ah H N M λc=>dK bp_ [x,a,b,c] H Q []:=zz
theorem sf_:am_ prog 59 (fr_):=sO (eZ n3_ func60 eN) nO func59
def dG_.cx:Cx:=⟨tys,[5,6,7],[],[],[(58,(fN_ (cR_ [(56,fi_),(59,fr_)])))],aw_,[.cell 8 24,.tmp 9]⟩
def dG_:=fF dG_.cx f17
theorem wO_:as_ dG_.cx f17 (k+1) [.agg [.sl x n 5],s,t,r] H Q=bY (fN_ (cR_ [(56,fi_),(59,fr_)])) [.agg [.sl x n 5],.g (.fn 56 [(ln H,0),(ln (pu H (.row true 9 [.str s])),0),(ln (pu (pu H (.row true 9 [.str s])) (.row true 9 [.str t])),0)]),.g (.fn 59 [(ln H,0),(ln (pu H (.row true 9 [.str s])),0),(ln (pu (pu H (.row true 9 [.str s])) (.row true 9 [.str t])),0)])] (pu (pu (pu H (.row true 9 [s])) (.row true 9 [t])) (.row true 9 [r])) 5 λa b c d=>bf b λb=>ax Q [.a [.sl c d 5],b] a:=zz
theorem on_:am_ prog 17 (dG_):=sO (dL_.cons ((po_ (cR_ [(56,fi_),(59,fr_)]) (gl_ (eZ tD_ func56 (eZ sf_ func59 eN)))).c ⟨_,func58,by kernel_rfl,by kernel_rfl⟩) eN) nO func17
def bw_.cx:Cx:=⟨tys,[],[(2000000,[0])],[],[],aw_,[.tmp 6]⟩
def bw_:=fF bw_.cx f118
theorem ha_:as_ bw_.cx f118 (k+1) [nL x n 3,i,j] H Q=ch 0 (nI n) (dm 0 j (leI 0 i) (chk (leN (tN i) (tN j)&&(leN (tN j) (tN (nI n))&&(leN (tN (nI n)) n&&nO_ H x (tN (nI n)*3)))) (bk i j (dE Q x n 3 H) (ch 0 i (fd (leN 0 (tN i)&&(leN (tN i) n||kk_ H x (tN i*3))) (dm 0 j (leN (tN j) n) (aN (cV H (shf x (tN j*3)) ((n-tN j)*3) H 108 3 40 (shf x 0) (tN i-0) (n-tN j) (λa b c=>ch 0 (nI n) (dm 0 (nI b) (leN (tN (nI b)) (tN (nI n))&&(leN (tN (nI n)) b||kk_ c a (tN (nI n)*3))) (aN (clr c (shf a (tN (nI b)*3)) (tN (nI n)-tN (nI b)) [.str (mkS []),.str (mkS []),.bool false] (λc=>dE Q a b 3 c))))))))))))):=zz
theorem g5_:am_ prog 118 (bw_):=sO eN nO func118
def fq_.cx:Cx:=⟨tys,[],[],[],[(110,fa_),(50,cF_),(118,bw_)],aw_,[.tmp 6,.tmp 7]⟩
def fq_:=fF fq_.cx f62
theorem sT_:as_ fq_.cx f62 (k+1) [nL x n 5,s,t] H Q=bW fa_ [nL x n 5,s,t] H 5 λa b c d=>af b λb e=>dP e λe=>cP b 0 Q (.s (.sl none 0 5)) a (cp e a 3 (λb f=>cd cF_ [nL b f 3,t] a λa b f=>aK f (ax Q [.s (.sl none 0 5),nN 1908] a) (cp e a 3 (λf g=>aC bw_ [nL f g 3,b,ac_ .i64 (b+1)] a 3 λa b f=>pS e λe g=>bt a e (g+4) (.sl b f 3) Q [.s (.sl c d 5),nN 0])))):=zz
theorem sb_:am_ prog 62 (fq_):=sO (eZ n7_ func110 (eZ gU_ func50 (eZ g5_ func118 eN))) nO func62
def eF_.cx:Cx:=⟨tys,[],[],[],[(62,fq_)],aw_,[.tmp 4]⟩
def eF_:=fF eF_.cx f61
theorem qw_:as_ eF_.cx f61 (k+1) [nL x n 5,.g (.ptr (some (m,l))),.g (.ptr (some (o,N)))] H Q=cA H m l H o N λa b=>bW fq_ [nL x n 5,a,b] H 5 λa b _ _=>bf b λb=>Q b a:=zz
theorem rz_:am_ prog 61 (eF_):=sO (eZ sb_ func62 eN) nO func61
def de_.cx:Cx:=⟨tys,[],[],[],[(116,bW_)],aw_,[]⟩
def de_:=fF de_.cx f64
theorem mH_:as_ de_.cx f64 (k+1) [x,s,t] H Q=bR x H λa=>dV H a [.str] s (.a [nN 0,nN 0,mkS [],mkS []]) λa b=>eu a λa _=>cR a (dK bW_ [x,.agg [b,t]] H Q []):=zz
theorem m3_:am_ prog 64 (de_):=sO (eZ gb_ func116 eN) nO func64
def eJ_.cx:Cx:=⟨tys,[],[],[],[(64,de_)],aw_,[]⟩
def eJ_:=fF eJ_.cx f63
theorem ra_:as_ eJ_.cx f63 (k+1) [x,.g (.ptr (some (n,m))),.g (.ptr (some (l,o)))] H Q=cA H n m H l o λa b=>dK de_ [x,a,b] H Q []:=zz
theorem rd_:am_ prog 63 (eJ_):=sO (eZ m3_ func64 eN) nO func63
end Go.Am
namespace Go.Am
open List
open Go.Proofs.Tryz
variable{E:Nat->Sm}{k:Nat}{H:Hp}{Q:Post}{U X Y Z u w x x1 y z:Pl}{D L M N O l m n n1 o:Nat}{I g h i j:Int}{C b b1 b2 c d:Bool}{R S e r s t:ByteArray}{A a:Option Nat}{p q:List (Nat×Nat)}{F:Sm}
def er_.cx:Cx:=⟨tys,[4,5],[],[],[(58,(fN_ (cR_ [(61,eF_),(63,eJ_)])))],aw_,[.cell 6 24,.tmp 7]⟩
def er_:=fF er_.cx f18
theorem uz_:as_ er_.cx f18 (k+1) [.agg [.sl x n 5],s,t] H Q=bY (fN_ (cR_ [(61,eF_),(63,eJ_)])) [.agg [.sl x n 5],.g (.fn 61 [(ln H,0),(ln (pu H (.row true 9 [.str s])),0)]),.g (.fn 63 [(ln H,0),(ln (pu H (.row true 9 [.str s])),0)])] (pu (pu H (.row true 9 [s])) (.row true 9 [t])) 5 λa b c d=>bf b λb=>ax Q [.a [.sl c d 5],b] a:=zz
theorem uu_:am_ prog 18 (er_):=sO (dL_.cons ((po_ (cR_ [(61,eF_),(63,eJ_)]) (gl_ (eZ rz_ func61 (eZ rd_ func63 eN)))).c ⟨_,func58,by kernel_rfl,by kernel_rfl⟩) eN) nO func18
def dp_.cx:Cx:=⟨tys,[],[],[],[],aw_,[.tmp 2]⟩
def dp_:=fF dp_.cx f19
theorem tW_:am_ prog 19 (dp_):=sO eN nO func19
def bL_.cx:Cx:=⟨tys,[],[(4,[0,1,5])],[],[],aw_,[.tmp 4]⟩
def bL_:=fF bL_.cx f119
def bL_.l4 k a b c d e:=aR_ (bL_.cx) f119 4 k (nL a b 1::nL c d 1::B 3 (gI e::B 20 []))
theorem kB_:as_ bL_.cx f119 (k+1) [nL x n 1,nL y m 1] H Q=d9 (nI n) (nI m) Q H (bL_.l4 k x n y m 0 H Q):=zz
theorem bL_.l4_eq:bL_.l4 (k+1) x n y m i H Q=bU i n (aH (leI 0 i&&ltI i (nI n)) x H (tN i*1) (λa=>aH (leI 0 i&&ltI i (nI m)) y H (tN i*1) λb=>dl a b (aS Q H) (bL_.l4 k x n y m (ac_ .i64 (i+1)) H Q))) (Q true H):=zz
theorem rG_:am_ prog 119 (bL_):=sO eN nO func119
def ce_.cx:Cx:=⟨tys,[],[(4,[0,1,5])],[],[],aw_,[.tmp 4]⟩
def ce_:=fF ce_.cx f120
def ce_.l4 k a b c d e:=aR_ (ce_.cx) f120 4 k (nL a b 1::nL c d 1::B 3 (gI e::B 20 []))
theorem lm_:as_ ce_.cx f120 (k+1) [nL x n 1,nL y m 1] H Q=d9 (nI n) (nI m) Q H (ce_.l4 k x n y m 0 H Q):=zz
theorem ce_.l4_eq:ce_.l4 (k+1) x n y m i H Q=bU i n (aJ (leI 0 i&&ltI i (nI n)) x H (tN i*1) (λa=>aJ (leI 0 i&&ltI i (nI m)) y H (tN i*1) λb=>d9 a b Q H (ce_.l4 k x n y m (ac_ .i64 (i+1)) H Q))) (Q true H):=zz
theorem sc_:am_ prog 120 (ce_):=sO eN nO func120
def fm_.cx:Cx:=⟨tys,[],[],[],[(119,bL_),(120,ce_)],aw_,[.tmp 4]⟩
def fm_:=fF fm_.cx f65
theorem r9_:as_ fm_.cx f65 (k+1) [.agg [b,c,.sl x n 1,.sl y m 1,.sl z l 1],.agg [C,d,.sl u o 1,.sl w N 1,.sl X M 1]] H Q=dA (eqB b C) Q H (dA (eqB c d) Q H (dC bL_ [nL x n 1,nL u o 1] H Q (λa=>dC bL_ [nL y m 1,nL w N 1] a Q λa=>cf ce_ [nL z l 1,nL X M 1] a Q))):=zz
theorem sj_:am_ prog 65 (fm_):=sO (eZ rG_ func119 (eZ sc_ func120 eN)) nO func65
def b3_.cx:Cx:=⟨tys,[],[(4,[2,3,5])],[],[(65,fm_)],aw_,[.tmp 4]⟩
def b3_:=fF b3_.cx f20
def b3_.l4 k a b c d e:=aR_ (b3_.cx) f20 4 k (.bad::.bad::.bx [.sl a b 5]::.bx [.sl c d 5]::.bad::gI e::B 26 [])
theorem sw_:as_ b3_.cx f20 (k+1) [.agg [.sl x n 5],.agg [.sl y m 5]] H Q=d9 (nI n) (nI m) Q H (b3_.l4 k x n y m 0 H Q):=zz
theorem b3_.l4_eq:b3_.l4 (k+1) x n y m i H Q=bU i n (dU (leI 0 i&&ltI i (nI n)) x H (tN i*5) H H 1 H 1 H 1 (λa b c d e f g h=>dU (leI 0 i&&ltI i (nI m)) y H (tN i*5) H H 1 H 1 H 1 λj l o p q r s t=>dg fm_ [.agg [a,b,.sl c d 1,.sl e f 1,.sl g h 1],.agg [j,l,.sl o p 1,.sl q r 1,.sl s t 1]] H Q λa=>b3_.l4 k x n y m (ac_ .i64 (i+1)) a Q)) (Q true H):=zz
theorem rZ_:am_ prog 20 (b3_):=sO (eZ sj_ func65 eN) nO func20
def e7_.cx:Cx:=⟨tys,[],[],[],[(28,bX_),(66,ax_)],aw_,[.tmp 2,.tmp 3]⟩
def e7_:=fF e7_.cx f21
theorem vl_:as_ e7_.cx f21 (k+1) [.agg [.sl x n 5]] H Q=dk bX_ [.agg [.sl x n 5]] H λa b c=>eF b (ax Q [.s (.sl none 0 5),nN 2000] a) (aW ax_ [c] a 5 Q (nN 0)):=zz
theorem xj_:am_ prog 21 (e7_):=sO (eZ kE_ func28 (eZ d5_ func66 eN)) nO func21
def gF_.cx:Cx:=⟨tys,[2],[],[],[],aw_,[.cell 0 24]⟩
def gF_:=fF gF_.cx f44
theorem AI_:as_ gF_.cx f44 (k+1) [] H Q=ak (leI 0 0&&ltI 0 (nI (tN 48))) (aF (pu H (.row true 100 (lt_ (tN 48) [.bool false,.bool false,.sl none 0 1,.sl none 0 1,.sl none 0 1]))) (ln H) (0+tN 0*5) true (ln H) (0+tN 0*5+1) true (λa=>aF a (ln H) (0+tN 0*5+1+1) (.sl none 0 1) (ln H) (0+tN 0*5+1+1+1) (.sl none 0 1) λa=>du a (ln H) (0+tN 0*5+1+1+1+1) none 0 1 λa=>eH Q [.sl (some (ln H,0)) (tN 48) 5] a)):=zz
theorem nj_:am_ prog 44 (gF_):=sO eN nO func44
def bf_.cx:Cx:=⟨tys,[],[(3,[0,3,4])],[],[],aw_,[.tmp 2]⟩
def bf_:=fF bf_.cx f69
def bf_.l3 k a b c d e:=aR_ (bf_.cx) f69 3 k (nL a b 5::.bad::.bad::nL c d 5::gI e::B 21 [])
theorem xN_:as_ bf_.cx f69 (k+1) [nL x n 5] H Q=bf_.l3 k x n none 0 0 H Q:=zz
theorem bf_.l3_eq:bf_.l3 (k+1) x n y m i H Q=bU i n (cZ (leI 0 i&&ltI i (nI n)) x H (tN i*5) H H H H 3 (λa b c d e f=>aN (dJ H e (f*3) H 108 3 40 f (λe=>dG e 52 5 80 y m [a,b,c,d,.sl (some (ln H,0)) f 3] λa b c=>bf_.l3 k x n a b (ac_ .i64 (i+1)) c Q)))) (dE Q y m 5 H):=zz
theorem kY_:am_ prog 69 (bf_):=sO eN nO func69
def a3_.cx:Cx:=⟨tys,[],[(4,[0,3,5,6,7])],[(9,[0,3,5,6,7])],[],aw_,[.tmp 4]⟩
def a3_:=fF a3_.cx f96
def a3_.l4 k a b c d e f g h i j l m:=aR_ (a3_.cx) f96 4 k (nL a b 5::.bad::.bad::.bx [.str c,.int .i64 d,.str e,.str f,.sl g h 3]::.bad::nL i j 5::gB l::gI m::B 36 [])
def a3_.l9 k a b c d e f g h i j l m:=aR_ (a3_.cx) f96 9 k (nL a b 5::.bad::.bad::.bx [.str c,.int .i64 d,.str e,.str f,.sl g h 3]::.bad::nL i j 5::gB l::gI m::B 36 [])
theorem xC_:as_ a3_.cx f96 (k+1) [nL x n 5,.agg [s,i,t,r,.sl y m 3]] H Q=a3_.l4 k x n s i t r y m none 0 false 0 H Q:=zz
theorem a3_.l4_eq:a3_.l4 (k+1) x n s i t r y m z l b j H Q=bU j n (aK b (bo (leI 0 j&&ltI j (nI n)) x H (tN j*5) (λa=>aK (dE_ a s||f5_ a s) (dG H 52 5 80 z l [s,i,t,r,.sl y m 3] (λa b c=>a3_.l9 k x n s i t r y m a b true j c Q)) (a3_.l9 k x n s i t r y m z l b j H Q))) (a3_.l9 k x n s i t r y m z l b j H Q)) (aK b (dG H 52 5 80 z l [s,i,t,r,.sl y m 3] (λa b c=>dE Q a b 5 c)) (dE Q z l 5 H)):=zz
theorem a3_.l9_eq:a3_.l9 (k+1) x n s i t r y m z l b j H Q=cZ (leI 0 j&&ltI j (nI n)) x H (tN j*5) H H H H 3 λa c d e f g=>dG H 52 5 80 z l [a,c,d,e,.sl f g 3] λa c d=>a3_.l4 k x n s i t r y m a c b (ac_ .i64 (j+1)) d Q:=zz
theorem pp_:am_ prog 96 (a3_):=sO eN nO func96
def bc_.cx:Cx:=⟨tys,[],[(17,[0,10,11,12])],[],[(95,ch_),(29,a2_),(51,bs_),(69,bf_),(96,a3_)],aw_,[.tmp 8,.tmp 9]⟩
def bc_:=fF bc_.cx f37
def bc_.l17 k a b c d e f g h i j:=aR_ (bc_.cx) f37 17 k (nL a b 5::B 9 (gI c::.bx [.str d,.int .i64 e,.str f,.str g,.sl h i 3]::gI j::B 87 []))
theorem sU_:as_ bc_.cx f37 (k+1) [nL x n 5,s,t,i] H Q=aG ch_ [nL x n 5,t] H λa b=>dW a2_ [nL x n 5] a Q [.s (.sl none 0 5),nN 1900] bs_ [s] Q [.s (.sl none 0 5),nN 1901] λa=>en t [] (bq bs_ [t] a Q [.s (.sl none 0 5),nN 1901] (λa=>bc i 0 (cq i 1 Q [.s (.sl none 0 5),nN 1905] a (aG ch_ [nL x n 5,s] a (λa c=>d6 0 c Q [.s (.sl none 0 5),nN 1902] a (en t [] (eI b 0 Q [.s (.sl none 0 5),nN 1904] a (bZ (leI 0 b&&ltI b (nI n)) x a (tN b*5) (λc=>cq c 2 Q [.s (.sl none 0 5),nN 1904] a (d6 6 (nI n) Q [.s (.sl none 0 5),nN 1910] a (aZ 0 b (bc_.l17 k x n b s i t (mkS []) none 0 0 a Q) (ew bf_ [nL x n 5] a 5 a3_ [s,i,t,mkS [],.sl none 0 3] 5 Q (nN 0))))))) (d6 6 (nI n) Q [.s (.sl none 0 5),nN 1910] a (aZ 0 b (bc_.l17 k x n b s i t (mkS []) none 0 0 a Q) (ew bf_ [nL x n 5] a 5 a3_ [s,i,t,mkS [],.sl none 0 3] 5 Q (nN 0)))))))) (aG ch_ [nL x n 5,s] a (λa c=>d6 0 c Q [.s (.sl none 0 5),nN 1902] a (en t [] (eI b 0 Q [.s (.sl none 0 5),nN 1904] a (bZ (leI 0 b&&ltI b (nI n)) x a (tN b*5) (λc=>cq c 2 Q [.s (.sl none 0 5),nN 1904] a (d6 6 (nI n) Q [.s (.sl none 0 5),nN 1910] a (aZ 0 b (bc_.l17 k x n b s i t (mkS []) none 0 0 a Q) (ew bf_ [nL x n 5] a 5 a3_ [s,i,t,mkS [],.sl none 0 3] 5 Q (nN 0))))))) (d6 6 (nI n) Q [.s (.sl none 0 5),nN 1910] a (aZ 0 b (bc_.l17 k x n b s i t (mkS []) none 0 0 a Q) (ew bf_ [nL x n 5] a 5 a3_ [s,i,t,mkS [],.sl none 0 3] 5 Q (nN 0))))))))) (bc i 0 (cq i 1 Q [.s (.sl none 0 5),nN 1905] a (aG ch_ [nL x n 5,s] a (λa c=>d6 0 c Q [.s (.sl none 0 5),nN 1902] a (en t [] (eI b 0 Q [.s (.sl none 0 5),nN 1904] a (bZ (leI 0 b&&ltI b (nI n)) x a (tN b*5) (λc=>cq c 2 Q [.s (.sl none 0 5),nN 1904] a (d6 6 (nI n) Q [.s (.sl none 0 5),nN 1910] a (aZ 0 b (bc_.l17 k x n b s i t (mkS []) none 0 0 a Q) (ew bf_ [nL x n 5] a 5 a3_ [s,i,t,mkS [],.sl none 0 3] 5 Q (nN 0))))))) (d6 6 (nI n) Q [.s (.sl none 0 5),nN 1910] a (aZ 0 b (bc_.l17 k x n b s i t (mkS []) none 0 0 a Q) (ew bf_ [nL x n 5] a 5 a3_ [s,i,t,mkS [],.sl none 0 3] 5 Q (nN 0)))))))) (aG ch_ [nL x n 5,s] a (λa c=>d6 0 c Q [.s (.sl none 0 5),nN 1902] a (en t [] (eI b 0 Q [.s (.sl none 0 5),nN 1904] a (bZ (leI 0 b&&ltI b (nI n)) x a (tN b*5) (λc=>cq c 2 Q [.s (.sl none 0 5),nN 1904] a (d6 6 (nI n) Q [.s (.sl none 0 5),nN 1910] a (aZ 0 b (bc_.l17 k x n b s i t (mkS []) none 0 0 a Q) (ew bf_ [nL x n 5] a 5 a3_ [s,i,t,mkS [],.sl none 0 3] 5 Q (nN 0))))))) (d6 6 (nI n) Q [.s (.sl none 0 5),nN 1910] a (aZ 0 b (bc_.l17 k x n b s i t (mkS []) none 0 0 a Q) (ew bf_ [nL x n 5] a 5 a3_ [s,i,t,mkS [],.sl none 0 3] 5 Q (nN 0)))))))):=zz
theorem bc_.l17_eq:bc_.l17 (k+1) x n i s j t r y m h H Q=aB (leI 0 i&&ltI i (nI n)) x λa b=>aY H a (b+tN i*5+4) 3 h (dp (leI 0 i&&ltI i (nI n)) x H (tN i*5) 3 0 h h (λa b=>cA H a (b+tN h*3) H a (b+tN h*3+1) λc d=>aE H a (b+tN h*3+1+1) λ_=>dG H 108 3 40 y m [c,d,false] λa b c=>bc_.l17 k x n i s j t r a b (ac_ .i64 (h+1)) c Q)) (ew bf_ [nL x n 5] H 5 a3_ [s,j,t,r,.sl y m 3] 5 Q (nN 0)):=zz
theorem sO_:am_ prog 37 (bc_):=sO (eZ kA_ func95 (eZ fX_ func29 (eZ dM_ func51 (eZ kY_ func69 (eZ pp_ func96 eN))))) nO func37
def aG_.cx:Cx:=⟨tys,[],[(2,[0,3]),(6,[0,3,4,5])],[],[(75,ba_)],aw_,[.tmp 2]⟩
def aG_:=fF aG_.cx f121
def aG_.l2 k a b:=aR_ (aG_.cx) f121 2 k (gP a::.bad::.bad::gI b::B 35 [])
def aG_.l6 k a b c d:=aR_ (aG_.cx) f121 6 k (gP a::.bad::.bad::gI b::gB c::gI d::B 33 [])
theorem m4_:as_ aG_.cx f121 (k+1) [x] H Q=aG_.l2 k x 1 H Q:=zz
theorem aG_.l2_eq:aG_.l2 (k+1) x i H Q=aZ i 255 (aG ba_ [x,i] H (λa b=>aG_.l6 k x i (leI 0 b) 0 a Q)) (Q (nN 0) H):=zz
theorem aG_.l6_eq:aG_.l6 (k+1) x i b j H Q=cy x H 4 j (cd_ b (aG_.l6 k x i true (ac_ .i64 (j+1)) H Q) (di x H 4 0 j j (λa b=>aq H a (b+tN j*4+0) λa=>aG_.l6 k x i (eqI a i) (ac_ .i64 (j+1)) H Q))) (aK b (Q i H) (aG_.l2 k x (ac_ .i64 (i+1)) H Q)):=zz
theorem m5_:am_ prog 121 (aG_):=sO (eZ g4_ func75 eN) nO func121
def dP_.cx:Cx:=⟨tys,[],[],[],[],aw_,[.tmp 2]⟩
def dP_:=fF dP_.cx f165
theorem o1_:as_ dP_.cx f165 (k+1) [x] H Q=bw x H 5 λ_ a=>eg x H 4 λ_ b=>cI x H 3 λ_ c=>Q (ac_ .i64 (ac_ .i64 (nI a+nI b)+nI c)) H:=zz
theorem oX_:am_ prog 165 (dP_):=sO eN nO func165
def bb_.cx:Cx:=⟨tys,[],[(2,[0,3])],[],[(75,ba_)],aw_,[.tmp 2]⟩
def bb_:=fF bb_.cx f147
def bb_.l2 k a b:=aR_ (bb_.cx) f147 2 k (gP a::.bad::.bad::gI b::B 21 [])
theorem mT_:as_ bb_.cx f147 (k+1) [x] H Q=bb_.l2 k x 0 H Q:=zz
theorem bb_.l2_eq:bb_.l2 (k+1) x i H Q=cy x H 4 i (di x H 4 0 i i (λa b=>aq H a (b+tN i*4+0) λa=>aG ba_ [x,a] H λa b=>aw b 0 (Q i a) (bb_.l2 k x (ac_ .i64 (i+1)) a Q))) (dZ Q .i64 (-1) H):=zz
theorem mI_:am_ prog 147 (bb_):=sO (eZ g4_ func75 eN) nO func147
def aF_.cx:Cx:=⟨tys,[],[(3,[0,1,4,5,6]),(11,[0,7,8])],[],[(55,aP_)],aw_,[]⟩
def aF_:=fF aF_.cx f123
def aF_.l3 k a b c d e f:=aR_ (aF_.cx) f123 3 k (gP a::gI b::.bad::.bad::gI c::nL d e 4::gI f::B 84 [])
def aF_.l11 k a b c d:=aR_ (aF_.cx) f123 11 k (gP a::B 6 (nL b c 3::gI d::B 82 []))
theorem pb_:as_ aF_.cx f123 (k+1) [x,i] H Q=di x H 4 0 i i λa b=>aq H a (b+tN i*4+2) λa=>aG aP_ [x,a] H λa b=>aF_.l3 k x i b none 0 0 a Q:=zz
theorem aF_.l3_eq:aF_.l3 (k+1) x i j y n h H Q=cy x H 4 h (bc h i (di x H 4 0 h h (λa b=>aq H a (b+tN h*4) λc=>ah H a (b+tN h*4+1) λd=>aq H a (b+tN h*4+1+1) λe=>aE H a (b+tN h*4+1+1+1) λa=>dG H 87 4 40 y n [c,d,e,a] λa b c=>aF_.l3 k x i j a b (ac_ .i64 (h+1)) c Q)) (aF_.l3 k x i j y n (ac_ .i64 (h+1)) H Q)) (bT x H (.sl y n 4) (λa=>cI x a 3 λb c=>cL (leI 0 j&&ltI j (nI c)) b a (tN j*3) λd=>aB (leI 0 j&&ltI j (nI c)) b λb c=>wr a b (c+tN j*3+1+0) (ac_ .i64 (d-1)) λa=>aF_.l11 k x none 0 0 a Q)):=zz
theorem aF_.l11_eq:aF_.l11 (k+1) x y n i H Q=eS x H 3 i (eM x H 3 0 i i (λa b=>aq H a (b+tN i*3+1+0) λa=>aw 0 a (eM x H 3 0 i i (λa b=>aq H a (b+tN i*3) λc=>aq H a (b+tN i*3+1) λd=>ah H a (b+tN i*3+1+1) λa=>dG H 65 3 32 y n [c,d,a] λa b c=>aF_.l11 k x a b (ac_ .i64 (i+1)) c Q)) (aF_.l11 k x y n (ac_ .i64 (i+1)) H Q))) (pS x (λa b=>bt H a (b+2) (.sl y n 3) Q [])):=zz
theorem jd_:am_ prog 123 (aF_):=sO (eZ d2_ func55 eN) nO func123
def bI_.cx:Cx:=⟨tys,[],[(0,[0])],[],[(147,bb_),(123,aF_)],aw_,[]⟩
def bI_:=fF bI_.cx f166
def bI_.l0 k a:=aR_ (bI_.cx) f166 0 k (gP a::B 8 [])
theorem bI_.l0_eq:bI_.l0 (k+1) x H Q=aG bb_ [x] H λa b=>aZ 0 b (aG bb_ [x] a (λa b=>cl aF_ [x,b] a λ_ a=>bI_.l0 k x a Q)) (ax Q [] a):=zz
theorem nH_:am_ prog 166 (bI_):=sO (eZ mI_ func147 (eZ jd_ func123 eN)) nO func166
def fp_.cx:Cx:=⟨tys,[],[],[],[(51,bs_)],aw_,[.tmp 2,.tmp 3]⟩
def fp_:=fF fp_.cx f208
theorem r0_:as_ fp_.cx f208 (k+1) [s] H Q=bq bs_ [s] H Q [mkS [],nN 1600] λa=>da (mkS [115]) s Q (nN 0) a:=zz
theorem sY_:am_ prog 208 (fp_):=sO (eZ dM_ func51 eN) nO func208
def fk_.cx:Cx:=⟨tys,[17],[],[],[(168,dW_)],aw_,[.tmp 2,.tmp 3]⟩
def fk_:=fF fk_.cx f209
theorem ti_:as_ fk_.cx f209 (k+1) [.agg [i,j,s,t]] H Q=cU dW_ [.agg [i,j,s,t]] H Q [mkS [],nN 1700] (.row true 5 [.int .u8 (ac_ .u8 i),.int .u8 (ac_ .u8 j),.int .u8 (ac_ .u8 (sz s))]) 3 λa b=>Ie_ b s λb=>da b t Q (nN 0) (pu a (.row true 5 [.int .u8 (ac_ .u8 i),.int .u8 (ac_ .u8 j),.int .u8 (ac_ .u8 (sz s))])):=zz
theorem tk_:am_ prog 209 (fk_):=sO (eZ k9_ func168 eN) nO func209
def dC_.cx:Cx:=⟨tys,[],[(3,[0,1,6,7])],[],[],aw_,[.tmp 4,.tmp 5]⟩
def dC_:=fF dC_.cx f99
def dC_.l3 k a b c d e:=aR_ (dC_.cx) f99 3 k (nL a b 1::gS c::B 4 (gI d::gI e::B 27 []))
theorem zI_:as_ dC_.cx f99 (k+1) [nL x n 1,s] H Q=dC_.l3 k x n s 0 0 H Q:=zz
theorem dC_.l3_eq:dC_.l3 (k+1) x n s i j H Q=bU j n (eJ (leI 0 j&&ltI j (nI n)) x H (tN j*1) s (dC_.l3 k x n s (ac_ .i64 (i+1)) (ac_ .i64 (j+1)) H Q) (dC_.l3 k x n s i (ac_ .i64 (j+1)) H Q)) (bU i n (aH (leI 0 i&&ltI i (nI n)) x H (tN i*1) (λa=>ax Q [i,.s (.bool (f5_ a s))] H)) (ax Q [i,false] H)):=zz
theorem zV_:am_ prog 99 (dC_):=sO eN nO func99
def go_.cx:Cx:=⟨tys,[],[],[],[],aw_,[.tmp 2]⟩
def go_:=fF go_.cx f149
theorem x5_:as_ go_.cx f149 (k+1) [nL x n 1] H Q=aN (dJ H x (n*1) H 9 1 16 n (λa=>dE Q (some (ln H,0)) n 1 a)):=zz
theorem yb_:am_ prog 149 (go_):=sO eN nO func149
def ik_.cx:Cx:=⟨tys,[],[],[],[],aw_,[.tmp 2]⟩
def ik_:=fF ik_.cx f150
theorem zt_:as_ ik_.cx f150 (k+1) [nL x n 1] H Q=aN (dJ H x (n*1) H 3 1 8 n (λa=>dE Q (some (ln H,0)) n 1 a)):=zz
theorem zX_:am_ prog 150 (ik_):=sO eN nO func150
def cc_.cx:Cx:=⟨tys,[],[(3,[1,2,3,4])],[],[(149,go_),(150,ik_)],aw_,[.cell 2 24]⟩
def cc_:=fF cc_.cx f100
def cc_.l3 k a b c d e f g:=aR_ (cc_.cx) f100 3 k (.bad::.bx [.sl a b 5]::.bx [.sl c d 5]::.bx [.sl e f 5]::gI g::B 32 [])
theorem tE_:as_ cc_.cx f100 (k+1) [.agg [.sl x n 5]] H Q=cc_.l3 k x n none 0 none 0 0 H Q:=zz
theorem cc_.l3_eq:cc_.l3 (k+1) x n y m z l i H Q=bU i n (dU (leI 0 i&&ltI i (nI n)) x H (tN i*5) H H 1 H 1 H 1 (λa b c d e f g h=>aC go_ [nL c d 1] H 1 λc d j=>aC go_ [nL e f 1] c 1 λc e f=>aC ik_ [nL g h 1] c 1 λc g h=>dG c 100 5 80 z l [a,b,.sl d j 1,.sl e f 1,.sl g h 1] λa b c=>cc_.l3 k x n y m a b (ac_ .i64 (i+1)) c Q)) (eH Q [.sl z l 5] H):=zz
theorem so_:am_ prog 100 (cc_):=sO (eZ yb_ func149 (eZ zX_ func150 eN)) nO func100
def cW_.cx:Cx:=⟨tys,[],[(4,[0,5,6,7]),(2000000,[6])],[],[],aw_,[.tmp 4]⟩
def cW_:=fF cW_.cx f152
def cW_.l4 k a b c d e:=aR_ (cW_.cx) f152 4 k (gI a::B 4 (gI b::nL c d 1::gI e::B 28 []))
theorem xQ_:as_ cW_.cx f152 (k+1) [i,j] H Q=chk (!(eqI j 0)) (cW_.l4 k i (mxI 1 (ac_ .i64 (Int.tdiv (ac_ .i64 (ac_ .i64 (i+j)-1)) j))) none 0 0 H Q):=zz
theorem cW_.l4_eq:cW_.l4 (k+1) i j x n h H Q=aw h j (ae (!(eqI j 0)) (!(eqI j 0)) (dG H 3 1 8 x n [ac_ .i64 (ac_ .i64 (Int.tdiv (ac_ .i64 (i*ac_ .i64 (h+1))) j)-ac_ .i64 (Int.tdiv (ac_ .i64 (i*h)) j))] (λa b c=>cW_.l4 k i j a b (ac_ .i64 (h+1)) c Q))) (dE Q x n 1 H):=zz
theorem pz_:am_ prog 152 (cW_):=sO eN nO func152
def a6_.cx:Cx:=⟨tys,[],[(5,[0,2,3,4,5,6]),(9,[0,2,3,4,5,6,7,8])],[(16,[0,2,3,4,5,6,7,9])],[(152,cW_)],aw_,[.cell 2 198]⟩
def a6_:=fF a6_.cx f151
def a6_.l5 k a b c d e f g h i j l m n o:=aR_ (a6_.cx) f151 5 k (nL a b 2::.bad::.bx [.sl c d 5,.sl e f 1]::.bx [.sl g h 5,.sl i j 1]::nL l m 1::gI n::gI o::B 73 [])
def a6_.l9 k a b c d e f g h i j l m n o p q r s t u v w x:=aR_ (a6_.cx) f151 9 k (nL a b 2::.bad::.bx [.sl c d 5,.sl e f 1]::.bx [.sl g h 5,.sl i j 1]::nL l m 1::gI n::gI o::.bx [.bool p,.bool q,.sl r s 1,.sl t u 1,.sl v w 1]::gI x::B 71 [])
def a6_.l16 k a b c d e f g h i j l m n o p q r s t u v w x:=aR_ (a6_.cx) f151 16 k (nL a b 2::.bad::.bx [.sl c d 5,.sl e f 1]::.bx [.sl g h 5,.sl i j 1]::nL l m 1::gI n::gI o::.bx [.bool p,.bool q,.sl r s 1,.sl t u 1,.sl v w 1]::.bad::gS x::B 70 [])
theorem vr_:as_ a6_.cx f151 (k+1) [nL x n 2] H Q=aC cW_ [nI n,nN 4] H 1 λa b c=>a6_.l5 k x n none 0 none 0 none 0 none 0 b c 0 0 a Q:=zz
theorem a6_.l5_eq:a6_.l5 (k+1) x n y m z l u o w N X M i j H Q=bU j M (a6_.l9 k x n y m z l u o w N X M i j true true none 0 none 0 none 0 i H Q) (eH Q [.sl u o 5,.sl w N 1] H):=zz
theorem a6_.l9_eq:a6_.l9 (k+1) x n y m z l u o w N X M i j b c Y L Z O U D h H Q=aJ (leI 0 j&&ltI j (nI M)) X H (tN j*1) λa=>aw h (ac_ .i64 (i+a)) (bo (leI 0 h&&ltI h (nI n)) x H (tN h*2) (λa=>dG H 9 1 16 Y L [a] λa d e=>dH (leI 0 h&&ltI h (nI n)) x e (tN h*2) λf=>dG e 9 1 16 Z O [f] λe f g=>a6_.l9 k x n y m z l u o w N X M i j b c a d e f U D (ac_ .i64 (h+1)) g Q)) (aJ (leI 0 j&&ltI j (nI M)) X H (tN j*1) (λa=>aw 0 a (bo (leI 0 i&&ltI i (nI n)) x H (tN i*2) (λa=>a6_.l16 k x n y m z l u o w N X M i j b c Y L Z O U D a H Q)) (a6_.l16 k x n y m z l u o w N X M i j b c Y L Z O U D (mkS []) H Q))):=zz
theorem a6_.l16_eq:a6_.l16 (k+1) x n y m z l u o w N X M i j b c Y L Z O U D s H Q=dG H 100 5 80 u o [b,c,.sl Y L 1,.sl Z O 1,.sl U D 1] λa b c=>dG c 9 1 16 w N [s] λc d e=>aJ (leI 0 j&&ltI j (nI M)) X e (tN j*1) λf=>a6_.l5 k x n y m z l a b c d X M (ac_ .i64 (i+f)) (ac_ .i64 (j+1)) e Q:=zz
theorem wK_:am_ prog 151 (a6_):=sO (eZ pz_ func152 eN) nO func151
def a9_.cx:Cx:=⟨tys,[],[(4,[2,3,4,5]),(9,[2,3,4,5,6,7,8,9]),(13,[2,3,4,5,6,7,8,9,10,11])],[],[(44,gF_),(151,a6_),(152,cW_)],aw_,[.cell 2 24]⟩
def a9_:=fF a9_.cx f102
def a9_.l4 k a b c d e f g h i:=aR_ (a9_.cx) f102 4 k (.bad::.bad::.bx [.sl a b 5]::.bx [.sl c d 5]::.bx [.sl e f 5,.sl g h 1]::gI i::B 96 [])
def a9_.l9 k a b c d e f g h i j l m n o p q r:=aR_ (a9_.cx) f102 9 k (.bad::.bad::.bx [.sl a b 5]::.bx [.sl c d 5]::.bx [.sl e f 5,.sl g h 1]::gI i::.bx [.sl j l 5,.sl m n 1]::nL o p 1::gI q::gI r::B 92 [])
def a9_.l13 k a b c d e f g h i j l m n o p q r s t u v w x y z A:=aR_ (a9_.cx) f102 13 k (.bad::.bad::.bx [.sl a b 5]::.bx [.sl c d 5]::.bx [.sl e f 5,.sl g h 1]::gI i::.bx [.sl j l 5,.sl m n 1]::nL o p 1::gI q::gI r::.bx [.bool s,.bool t,.sl u v 1,.sl w x 1,.sl y z 1]::gI A::B 90 [])
theorem xS_:as_ a9_.cx f102 (k+1) [nL x n 2] H Q=bO gF_ [] H 5 λa b c=>bj a6_ [nL x n 2] a λa d=>ce d 5 1 λd e f g=>a9_.l4 k none 0 b c d e f g 1 a Q:=zz
theorem a9_.l4_eq:a9_.l4 (k+1) x n y m z l u o i H Q=bU 1 l (aC cW_ [nI l,nN 5] H 1 (λa b c=>a9_.l9 k x n y m z l u o i none 0 none 0 b c 0 0 a Q)) (cK (leI 0 0&&ltI 0 (nI l)) z H (tN 0*5) H (tN 0*5) H (tN 0*5) 1 H (tN 0*5) 1 H (tN 0*5) 1 (leI 0 0&&ltI 0 (nI m)) y H (tN 0*5) (tN 0*5) (tN 0*5) (tN 0*5) (tN 0*5) (λa=>eH Q [.sl y m 5] a)):=zz
theorem a9_.l9_eq:a9_.l9 (k+1) x n y m z l u o i w N X M Y L j h H Q=bU h L (a9_.l13 k x n y m z l u o i w N X M Y L j h true false none 0 none 0 none 0 j H Q) (a9_.l4 k x n y m w N X M i H Q):=zz
theorem a9_.l13_eq:a9_.l13 (k+1) x n y m z l u o i w N X M Y L j h b c Z O U D x1 n1 g H Q=aJ (leI 0 h&&ltI h (nI L)) Y H (tN h*1) λa=>aw g (ac_ .i64 (j+a)) (cK (leI 0 g&&ltI g (nI l)) z H (tN g*5) H (tN g*5) H (tN g*5) 1 H (tN g*5) 1 H (tN g*5) 1 (leI 0 i&&ltI i (nI m)) y H (tN i*5) (tN i*5) (tN i*5) (tN i*5) (tN i*5) (λa=>dG a 3 1 8 x1 n1 [i] λa d e=>aw j g (aH (leI 0 g&&ltI g (nI o)) u e (tN g*1) (λf=>dG e 9 1 16 Z O [f] λe f p=>a9_.l13 k x n y m z l u o (ac_ .i64 (i+1)) w N X M Y L j h b c e f U D a d (ac_ .i64 (g+1)) p Q)) (a9_.l13 k x n y m z l u o (ac_ .i64 (i+1)) w N X M Y L j h b c Z O U D a d (ac_ .i64 (g+1)) e Q))) (dG H 100 5 80 w N [b,c,.sl Z O 1,.sl U D 1,.sl x1 n1 1] (λa b c=>aH (leI 0 j&&ltI j (nI o)) u c (tN j*1) λd=>dG c 9 1 16 X M [d] λc d e=>aJ (leI 0 h&&ltI h (nI L)) Y e (tN h*1) λf=>a9_.l9 k x n y m z l u o i a b c d Y L (ac_ .i64 (j+f)) (ac_ .i64 (h+1)) e Q)):=zz
theorem xY_:am_ prog 102 (a9_):=sO (eZ nj_ func44 (eZ wK_ func151 (eZ pz_ func152 eN))) nO func102
def bk_.cx:Cx:=⟨tys,[],[(4,[1,2,3,6,8]),(15,[1,2,6,12,13])],[],[(98,fU_),(99,dC_),(100,cc_),(101,br_),(102,a9_)],aw_,[.cell 6 24,.tmp 7]⟩
def bk_:=fF bk_.cx f43
def bk_.l4 k a b c d e f g:=aR_ (bk_.cx) f43 4 k (.bad::gS a::gS b::.bx [.sl c d 5]::.bad::.bad::.bx [.sl e f 5]::.bad::gI g::B 103 [])
def bk_.l15 k a b c d e f g:=aR_ (bk_.cx) f43 15 k (.bad::gS a::gS b::B 3 (.bx [.sl c d 5]::B 5 (nL e f 2::gI g::B 98 [])))
theorem vS_:as_ bk_.cx f43 (k+1) [.agg [.sl x n 5],s,t] H Q=bq fU_ [.agg [.sl x n 5]] H Q [.a [.sl none 0 5],nN 1200] λa=>eI (sz s) 1 Q [.a [.sl none 0 5],nN 1200] a (eI 6 (sz s) Q [.a [.sl none 0 5],nN 1200] a (eI 10 (sz t) Q [.a [.sl none 0 5],nN 1200] a (bk_.l4 k s t x n none 0 0 a Q))):=zz
theorem bk_.l4_eq:bk_.l4 (k+1) s t x n y m i H Q=bU i n (aB (leI 0 i&&ltI i (nI n)) x (λa b=>dN H a (b+tN i*5+2) λa b=>cd dC_ [nL a b 1,s] H λa b c=>aB (leI 0 i&&ltI i (nI n)) x λd e=>dh a d (e+tN i*5+1) (cd_ c (bO cc_ [.agg [.sl x n 5]] a 5 (λa c d=>aB (leI 0 i&&ltI i (nI d)) c λe f=>cQ a e (f+tN i*5+3) 1 0 b b λe f=>bt a e (f+tN b*1) t Q [.a [.sl c d 5],nN 0])) (bk_.l4 k s t x n y m (ac_ .i64 (i+1)) a Q)) (bk_.l4 k s t x n y m (ac_ .i64 (i+1)) a Q))) (aC br_ [.agg [.sl x n 5],nN 0,nL none 0 2] H 2 (λa b c=>d6 60 (nI c) Q [.a [.sl none 0 5],nN 1201] a (bk_.l15 k s t y m b c 0 a Q))):=zz
theorem bk_.l15_eq:bk_.l15 (k+1) s t x n y m i H Q=bU i m (bo (leI 0 i&&ltI i (nI m)) y H (tN i*2) (λa=>cd_ (dE_ a s) (bk_.l15 k s t x n y m (ac_ .i64 (i+1)) H Q) (ch 0 i (fd (leN 0 (tN i)&&(leN (tN i) m||kk_ H y (tN i*2))) (cV H (shf y 0) ((tN i-0)*2) H 131 2 32 none 0 (tN i-0) (λa b c=>dG c 131 2 32 a b [s,t] λa b c=>ch 0 i (fd (leN (tN i) m) (cV c (shf y (tN i*2)) ((m-tN i)*2) c 131 2 32 a b (m-tN i) (λa b c=>bP a9_ [nL a b 2] c 5 Q (nN 0)))))))))) (ch 0 i (fd (leN 0 (tN i)&&(leN (tN i) m||kk_ H y (tN i*2))) (cV H (shf y 0) ((tN i-0)*2) H 131 2 32 none 0 (tN i-0) (λa b c=>dG c 131 2 32 a b [s,t] λa b c=>ch 0 i (fd (leN (tN i) m) (cV c (shf y (tN i*2)) ((m-tN i)*2) c 131 2 32 a b (m-tN i) (λa b c=>bP a9_ [nL a b 2] c 5 Q (nN 0)))))))):=zz
theorem w0_:am_ prog 43 (bk_):=sO (eZ pq_ func98 (eZ zV_ func99 (eZ so_ func100 (eZ tH_ func101 (eZ xY_ func102 eN))))) nO func43
def fn_.cx:Cx:=⟨tys,[16],[],[],[(213,dj_),(53,cH_)],aw_,[.tmp 4,.tmp 5]⟩
def fn_:=fF fn_.cx f210
theorem s1_:as_ fn_.cx f210 (k+1) [i,s] H Q=bq dj_ [i] H Q [mkS [],nN 1600] λa=>dy cH_ [s] a Q [mkS [],nN 1600] (.row true 5 [.int .u8 102,.int .u8 (ac_ .u8 i)]) 2 s Q (nN 0):=zz
theorem se_:am_ prog 210 (fn_):=sO (eZ h0_ func213 (eZ gX_ func53 eN)) nO func210
def eR_.cx:Cx:=⟨tys,[9],[],[],[(213,dj_)],aw_,[.tmp 2,.tmp 3]⟩
def eR_:=fF eR_.cx f211
theorem rb_:as_ eR_.cx f211 (k+1) [i] H Q=cU dj_ [i] H Q [mkS [],nN 1600] (.row true 5 [.int .u8 105,.int .u8 (ac_ .u8 i)]) 2 λa b=>ax Q [b,nN 0] (pu a (.row true 5 [.int .u8 105,.int .u8 (ac_ .u8 i)])):=zz
theorem rt_:am_ prog 211 (eR_):=sO (eZ h0_ func213 eN) nO func211
def eK_.cx:Cx:=⟨tys,[10],[],[],[(169,dw_)],aw_,[.tmp 2,.tmp 3]⟩
def eK_:=fF eK_.cx f212
theorem rc_:as_ eK_.cx f212 (k+1) [.agg [i,s]] H Q=dy dw_ [.agg [i,s]] H Q [mkS [],nN 1800] (.row true 5 [.int .u8 (ac_ .u8 i)]) 1 s Q (nN 0):=zz
theorem rN_:am_ prog 212 (eK_):=sO (eZ ku_ func169 eN) nO func212
def aq_.cx:Cx:=⟨tys,[93],[(3,[0,2,3,4]),(9,[0,2,3,9]),(18,[0,2,3,14])],[(16,[0,2,3,9,10,11,13])],[(44,gF_),(208,fp_),(209,fk_),(43,bk_),(210,fn_),(211,eR_),(212,eK_)],aw_,[.cell 2 24]⟩
def aq_:=fF aq_.cx f167
def aq_.l3 k a b c d e f:=aR_ (aq_.cx) f167 3 k (gP a::.bad::.bx [.sl b c 5]::.bx [.sl d e 5]::gI f::B 134 [])
def aq_.l9 k a b c d e f:=aR_ (aq_.cx) f167 9 k (gP a::.bad::.bx [.sl b c 5]::.bx [.sl d e 5]::B 5 (gI f::B 129 []))
def aq_.l16 k a b c d e f g h i j l m:=aR_ (aq_.cx) f167 16 k (gP a::.bad::.bx [.sl b c 5]::.bx [.sl d e 5]::B 5 (gI f::.bx [.int .i64 g,.str h,.int .i64 i,.bool j]::gS l::.bad::.g (.int .u8 m)::B 125 []))
def aq_.l18 k a b c d e f:=aR_ (aq_.cx) f167 18 k (gP a::.bad::.bx [.sl b c 5]::.bx [.sl d e 5]::B 10 (gI f::B 124 []))
theorem oV_:as_ aq_.cx f167 (k+1) [x] H Q=bO gF_ [] H 5 λa b c=>aq_.l3 k x none 0 b c 0 a Q:=zz
theorem aq_.l3_eq:aq_.l3 (k+1) x y n z m i H Q=eQ x H 5 i (cD x H 5 0 i i (λa b=>ah H a (b+tN i*5+0) λa=>dv fp_ [a] H λa b=>cD x a 5 0 i i λc d=>aq a c (d+tN i*5+1) λe=>aq a c (d+tN i*5+1+1) λf=>cA a c (d+tN i*5+1+1+1) a c (d+tN i*5+1+1+1+1) λc d=>dv fk_ [.agg [e,f,c,d]] a λa c=>dz bk_ [.agg [.sl z m 5],b,c] a 5 λa b c=>aq_.l3 k x y n b c (ac_ .i64 (i+1)) a Q)) (aq_.l9 k x y n z m 0 H Q):=zz
theorem aq_.l9_eq:aq_.l9 (k+1) x y n z m i H Q=cy x H 4 i (di x H 4 0 i i (λa b=>aq H a (b+tN i*4) λc=>ah H a (b+tN i*4+1) λd=>aq H a (b+tN i*4+1+1) λe=>aE H a (b+tN i*4+1+1+1) λa=>dv fn_ [c,d] H λb f=>cd_ a (aq_.l16 k x y n z m i c d e a f 1 b Q) (aq_.l16 k x y n z m i c d e a f 0 b Q))) (aq_.l18 k x y n z m 0 H Q):=zz
theorem aq_.l16_eq:aq_.l16 (k+1) x y n z m i j s h b t g H Q=rdN (pu H (.row true 5 [.int .u8 (ac_ .u8 h),.int .u8 g])) (some (ln H,0)) 2 λa=>txt a λa=>dz bk_ [.agg [.sl z m 5],t,a] (pu H (.row true 5 [.int .u8 (ac_ .u8 h),.int .u8 g])) 5 λa b c=>aq_.l9 k x y n b c (ac_ .i64 (i+1)) a Q:=zz
theorem aq_.l18_eq:aq_.l18 (k+1) x y n z m i H Q=eS x H 3 i (eM x H 3 0 i i (λa b=>aq H a (b+tN i*3+0) λa=>dv eR_ [a] H λa b=>eM x a 3 0 i i λc d=>aq a c (d+tN i*3+1) λe=>ah a c (d+tN i*3+1+1) λc=>dv eK_ [.agg [e,c]] a λa c=>dz bk_ [.agg [.sl z m 5],b,c] a 5 λa b c=>aq_.l18 k x y n b c (ac_ .i64 (i+1)) a Q)) (eH Q [.sl z m 5] H):=zz
theorem o6_:am_ prog 167 (aq_):=sO (eZ nj_ func44 (eZ sY_ func208 (eZ tk_ func209 (eZ w0_ func43 (eZ se_ func210 (eZ rt_ func211 (eZ rN_ func212 eN))))))) nO func167
def co_.cx:Cx:=⟨tys,[],[],[],[(165,dP_),(166,bI_),(167,aq_)],aw_,[.cell 2 24]⟩
def co_:=fF co_.cx f122
theorem oT_:as_ co_.cx f122 (k+1) [x] H Q=aG dP_ [x] H λa b=>aw 60 b (cl bI_ [x] a (λ_ a=>bO aq_ [x] a 5 λa b c=>eH Q [.sl b c 5] a)) (bO aq_ [x] a 5 (λa b c=>eH Q [.sl b c 5] a)):=zz
theorem g3_:am_ prog 122 (co_):=sO (eZ oX_ func165 (eZ nH_ func166 (eZ o6_ func167 eN))) nO func122
def a4_.cx:Cx:=⟨tys,[],[(12,[1,2,3,8,10,14,15,16,17])],[(18,[1,2,3,8,10,14])],[(28,bX_),(66,ax_),(37,bc_),(121,aG_),(52,aS_),(55,aP_),(122,co_)],aw_,[.cell 8 24,.tmp 9]⟩
def a4_:=fF a4_.cx f70
def a4_.l12 k a b c d e f g h i j:=aR_ (a4_.cx) f70 12 k (.bad::gS a::gS b::gI c::B 4 (.bx [.sl d e 5]::.bad::gP f::B 3 (gI g::gI h::gI i::gI j::B 106 [])))
def a4_.l18 k a b c d e f g:=aR_ (a4_.cx) f70 18 k (.bad::gS a::gS b::gI c::B 4 (.bx [.sl d e 5]::.bad::gP f::B 3 (gI g::B 109 [])))
theorem tf_:as_ a4_.cx f70 (k+1) [.agg [.sl x n 5],s,t,i] H Q=dk bX_ [.agg [.sl x n 5]] H λa b c=>eF b (ax Q [.a [.sl none 0 5],nN 2000] a) (aC ax_ [c] a 5 (λa b d=>bW bc_ [nL b d 5,s,t,i] a 5 λa b _ _=>cP b 0 Q (.a [.sl none 0 5]) a (aG aG_ [c] a (λa b=>en t [] (dq c a 5 (λd e f g=>aG aS_ [c,t] a λa h=>bN a d (e+0) 5 (nL f g 5) (cL (leI 0 h&&ltI h (nI g)) f a (tN h*5) (λd=>eg c a 4 λ_ e=>a4_.l12 k s t i none 0 c b d (nI e) 0 a Q)))) (a4_.l18 k s t i none 0 c b a Q))))):=zz
theorem a4_.l12_eq:a4_.l12 (k+1) s t i x n y j h g I H Q=aw I g (di y H 4 0 I I (λa b=>aq H a (b+tN I*4) λc=>ah H a (b+tN I*4+1) λd=>aq H a (b+tN I*4+1+1) λe=>aE H a (b+tN I*4+1+1+1) λ_=>bk c h (eg y H 4 (λa b=>eK H 87 4 40 a b [j,d,e,false] y λa=>pS y λb c=>aa a b (c+2) 3 λd f=>aG aP_ [y,e] a λa e=>aa a b (c+2) 3 λb c=>eqv (nL d f 3) (nL b c 3) (cL (leI 0 e&&ltI e (nI f)) d a (tN e*3) (λb=>aB (leI 0 e&&ltI e (nI f)) d λc d=>wr a c (d+tN e*3+1+0) (ac_ .i64 (b+1)) λa=>a4_.l12 k s t i x n y j h g (ac_ .i64 (I+1)) a Q)))) (a4_.l12 k s t i x n y j h g (ac_ .i64 (I+1)) H Q))) (a4_.l18 k s t i x n y j H Q):=zz
theorem a4_.l18_eq:a4_.l18 (k+1) s t i x n y j H Q=bw y H 5 λa b=>dG H 83 5 64 a b [s,j,i,t,mkS []] λa b c=>pS y λd e=>du c d (e+0) a b 5 λa=>bP co_ [y] a 5 Q (nN 0):=zz
theorem r4_:am_ prog 70 (a4_):=sO (eZ kE_ func28 (eZ d5_ func66 (eZ sO_ func37 (eZ m5_ func121 (eZ e9_ func52 (eZ d2_ func55 (eZ g3_ func122 eN))))))) nO func70
def es_.cx:Cx:=⟨tys,[],[],[],[(95,ch_)],aw_,[.tmp 4,.tmp 5]⟩
def es_:=fF es_.cx f67
theorem ur_:as_ es_.cx f67 (k+1) [nL x n 5,s] H Q=aG ch_ [nL x n 5,s] H λa b=>eI b 0 Q [nN 0,nN 1903] a (bZ (leI 0 b&&ltI b (nI n)) x a (tN b*5) (λc=>cq c 0 Q [nN 0,nN 1905] a (ax Q [b,nN 0] a))):=zz
theorem mB_:am_ prog 67 (es_):=sO (eZ kA_ func95 eN) nO func67
def ck_.cx:Cx:=⟨tys,[],[(2,[0,1,5])],[],[],aw_,[.tmp 4]⟩
def ck_:=fF ck_.cx f68
def ck_.l2 k a b c d:=aR_ (ck_.cx) f68 2 k (nL a b 3::gS c::B 3 (gI d::B 14 []))
theorem ug_:as_ ck_.cx f68 (k+1) [nL x n 3,s] H Q=ck_.l2 k x n s 0 H Q:=zz
theorem ck_.l2_eq:ck_.l2 (k+1) x n s i H Q=bU i n (bo (leI 0 i&&ltI i (nI n)) x H (tN i*3) (λa=>cJ a s (Q i H) (ck_.l2 k x n s (ac_ .i64 (i+1)) H Q))) (dZ Q .i64 (-1) H):=zz
theorem uy_:am_ prog 68 (ck_):=sO eN nO func68
def a0_.cx:Cx:=⟨tys,[],[(22,[2,10,13,14,15,16])],[(26,[2,10,13,14,15,16]),(29,[10,13,15])],[(29,a2_),(51,bs_),(67,es_),(68,ck_),(53,cH_),(69,bf_)],aw_,[.tmp 8,.tmp 9]⟩
def a0_:=fF a0_.cx f23
def a0_.l22 k a b c d e f g h i j:=aR_ (a0_.cx) f23 22 k (.bad::.bad::gS a::B 7 (gI b::.bad::.bad::nL c d 5::.bx [.str e,.str f,.bool g]::nL h i 3::gI j::B 119 []))
def a0_.l26 k a b c d e f g h i j:=aR_ (a0_.cx) f23 26 k (.bad::.bad::gS a::B 7 (gI b::.bad::.bad::nL c d 5::.bx [.str e,.str f,.bool g]::nL h i 3::gI j::B 119 []))
def a0_.l29 k a b c d e:=aR_ (a0_.cx) f23 29 k (B 10 (gI a::.bad::.bad::nL b c 5::.bad::nL d e 3::B 120 []))
theorem wd_:as_ a0_.cx f23 (k+1) [nL x n 5,s,t,r] H Q=dW a2_ [nL x n 5] H Q [.s (.sl none 0 5),nN 1900] bs_ [s] Q [.s (.sl none 0 5),nN 1901] λa=>bA es_ [nL x n 5,s] a λa b c=>cP b 0 Q (.s (.sl none 0 5)) a (bV (leI 0 c&&ltI c (nI n)) x a (tN c*5) 3 (λb d=>aG ck_ [nL b d 3,t] a λa b=>bq cH_ [t] a Q [.s (.sl none 0 5),nN 1907] λa=>eI 6 (sz r) Q [.s (.sl none 0 5),nN 1909] a (aw b 0 (bV (leI 0 c&&ltI c (nI n)) x a (tN c*5) 3 (λ_ d=>d6 4 (nI d) Q [.s (.sl none 0 5),nN 1910] a (aC bf_ [nL x n 5] a 5 (λa d e=>aZ 0 b (dp (leI 0 c&&ltI c (nI e)) d a (tN c*5) 3 0 b b (λc f=>aF a c (f+tN b*3) t c (f+tN b*3+1) r λa=>bt a c (f+tN b*3+1+1) true Q [.s (.sl d e 5),nN 0])) (a0_.l22 k t c d e t r true none 0 0 a Q))))) (aC bf_ [nL x n 5] a 5 (λa d e=>aZ 0 b (dp (leI 0 c&&ltI c (nI e)) d a (tN c*5) 3 0 b b (λc f=>aF a c (f+tN b*3) t c (f+tN b*3+1) r λa=>bt a c (f+tN b*3+1+1) true Q [.s (.sl d e 5),nN 0])) (a0_.l22 k t c d e t r true none 0 0 a Q)))))):=zz
theorem a0_.l22_eq:a0_.l22 (k+1) s i x n t r b y m j H Q=aB (leI 0 i&&ltI i (nI n)) x λa c=>aY H a (c+tN i*5+4) 3 j (eO m j (dp (leI 0 i&&ltI i (nI n)) x H (tN i*5) 3 0 j j (λa c=>ah H a (c+tN j*3+0) λa=>aK (dE_ a s||f5_ a s) (dG H 108 3 40 y m [t,r,b] (λa c d=>a0_.l26 k s i x n t r b a c j d Q)) (a0_.l26 k s i x n t r b y m j H Q))) (a0_.l26 k s i x n t r b y m j H Q)) (bV (leI 0 i&&ltI i (nI n)) x H (tN i*5) 3 (λ_ a=>eO m (nI a) (dG H 108 3 40 y m [t,r,b] (λa b c=>a0_.l29 k i x n a b c Q)) (a0_.l29 k i x n y m H Q))):=zz
theorem a0_.l26_eq:a0_.l26 (k+1) s i x n t r b y m j H Q=dp (leI 0 i&&ltI i (nI n)) x H (tN i*5) 3 0 j j λa c=>cA H a (c+tN j*3) H a (c+tN j*3+1) λd e=>aE H a (c+tN j*3+1+1) λa=>dG H 108 3 40 y m [d,e,a] λa c d=>a0_.l22 k s i x n t r b a c (ac_ .i64 (j+1)) d Q:=zz
theorem a0_.l29_eq:a0_.l29 (k+1) i x n y m H Q=aB (leI 0 i&&ltI i (nI n)) x λa b=>bt H a (b+tN i*5+4) (.sl y m 3) Q [.s (.sl x n 5),nN 0]:=zz
theorem wY_:am_ prog 23 (a0_):=sO (eZ fX_ func29 (eZ dM_ func51 (eZ mB_ func67 (eZ uy_ func68 (eZ gX_ func53 (eZ kY_ func69 eN)))))) nO func23
def aX_.cx:Cx:=⟨tys,[],[(2,[0,3])],[],[(55,aP_)],aw_,[.tmp 2]⟩
def aX_:=fF aX_.cx f124
def aX_.l2 k a b:=aR_ (aX_.cx) f124 2 k (gP a::.bad::.bad::gI b::B 9 [])
theorem k0_:as_ aX_.cx f124 (k+1) [x] H Q=aX_.l2 k x 1 H Q:=zz
theorem aX_.l2_eq:aX_.l2 (k+1) x i H Q=aZ i 255 (aG aP_ [x,i] H (λa b=>aw b 0 (Q i a) (aX_.l2 k x (ac_ .i64 (i+1)) a Q))) (Q (nN 0) H):=zz
theorem k4_:am_ prog 124 (aX_):=sO (eZ d2_ func55 eN) nO func124
def cu_.cx:Cx:=⟨tys,[],[],[(10,[1,2,3,8,10])],[(28,bX_),(66,ax_),(23,a0_),(54,a7_),(123,aF_),(124,aX_),(52,aS_),(122,co_)],aw_,[.cell 8 24,.tmp 9]⟩
def cu_:=fF cu_.cx f71
def cu_.l10 k a b c d e f:=aR_ (cu_.cx) f71 10 k (.bad::gS a::gS b::gS c::B 4 (.bx [.sl d e 5]::.bad::gP f::B 75 []))
theorem xu_:as_ cu_.cx f71 (k+1) [.agg [.sl x n 5],s,t,r] H Q=dk bX_ [.agg [.sl x n 5]] H λa b c=>eF b (ax Q [.a [.sl none 0 5],nN 2000] a) (aC ax_ [c] a 5 (λa b d=>bW a0_ [nL b d 5,s,t,r] a 5 λa b _ _=>cP b 0 Q (.a [.sl none 0 5]) a (aG a7_ [c,s,t] a (λa b=>aZ 0 b (cl aF_ [c,b] a (λ_ a=>cu_.l10 k s t r none 0 c a Q)) (cu_.l10 k s t r none 0 c a Q))))):=zz
theorem cu_.l10_eq:cu_.l10 (k+1) s t r x n y H Q=aG aX_ [y] H λa b=>cI y a 3 λc d=>dG a 65 3 32 c d [b,nN 1,r] λa c d=>pS y λe f=>du d e (f+2) a c 3 λa=>pS y λc d=>aa a c (d+1) 4 λe f=>dq y a 5 λg h i j=>aG aS_ [y,s] a λa l=>bN a g (h+0) 5 (nL i j 5) (aa a c (d+1) 4 (λc d=>eqv (nL e f 4) (nL c d 4) (cL (leI 0 l&&ltI l (nI j)) i a (tN l*5) (λc=>eK a 87 4 40 e f [c,t,b,true] y λa=>bP co_ [y] a 5 Q (nN 0))))):=zz
theorem wv_:am_ prog 71 (cu_):=sO (eZ kE_ func28 (eZ d5_ func66 (eZ wY_ func23 (eZ mP_ func54 (eZ jd_ func123 (eZ k4_ func124 (eZ e9_ func52 (eZ g3_ func122 eN)))))))) nO func71
def bR_.cx:Cx:=⟨tys,[],[(3,[0,1,5,6])],[],[],aw_,[.tmp 4]⟩
def bR_:=fF bR_.cx f97
def bR_.l3 k a b c d e f:=aR_ (bR_.cx) f97 3 k (nL a b 5::gI c::B 3 (nL d e 5::gI f::B 17 []))
theorem to_:as_ bR_.cx f97 (k+1) [nL x n 5,i] H Q=bR_.l3 k x n i none 0 0 H Q:=zz
theorem bR_.l3_eq:bR_.l3 (k+1) x n i y m j H Q=bU j n (bc j i (cZ (leI 0 j&&ltI j (nI n)) x H (tN j*5) H H H H 3 (λa b c d e f=>dG H 52 5 80 y m [a,b,c,d,.sl e f 3] λa b c=>bR_.l3 k x n i a b (ac_ .i64 (j+1)) c Q)) (bR_.l3 k x n i y m (ac_ .i64 (j+1)) H Q)) (dE Q y m 5 H):=zz
theorem sa_:am_ prog 97 (bR_):=sO eN nO func97
def fS_.cx:Cx:=⟨tys,[],[],[],[(29,a2_),(51,bs_),(67,es_),(95,ch_),(69,bf_),(97,bR_),(96,a3_)],aw_,[.tmp 6,.tmp 7]⟩
def fS_:=fF fS_.cx f38
theorem uC_:as_ fS_.cx f38 (k+1) [nL x n 5,s,t] H Q=dW a2_ [nL x n 5] H Q [.s (.sl none 0 5),nN 1900] bs_ [s] Q [.s (.sl none 0 5),nN 1901] λa=>bq bs_ [t] a Q [.s (.sl none 0 5),nN 1901] λa=>bA es_ [nL x n 5,s] a λa b c=>cP b 0 Q (.s (.sl none 0 5)) a (aG ch_ [nL x n 5,t] a (λa b=>d6 0 b Q [.s (.sl none 0 5),nN 1902] a (aC bf_ [nL x n 5] a 5 (λa b d=>bD (leI 0 c&&ltI c (nI d)) b a (tN c*5) λe f _=>aq a e (f+tN c*5+1) λ_=>cA a e (f+tN c*5+1+1) a e (f+tN c*5+1+1+1) λg h=>aa a e (f+tN c*5+1+1+1+1) 3 λe f=>ew bR_ [nL b d 5,c] a 5 a3_ [t,nN 2,g,h,.sl e f 3] 5 Q (nN 0))))):=zz
theorem uK_:am_ prog 38 (fS_):=sO (eZ fX_ func29 (eZ dM_ func51 (eZ mB_ func67 (eZ kA_ func95 (eZ kY_ func69 (eZ sa_ func97 (eZ pp_ func96 eN))))))) nO func38
def e4_.cx:Cx:=⟨tys,[],[],[],[(28,bX_),(66,ax_),(38,fS_),(52,aS_),(122,co_)],aw_,[.cell 6 24,.tmp 7]⟩
def e4_:=fF e4_.cx f72
theorem uJ_:as_ e4_.cx f72 (k+1) [.agg [.sl x n 5],s,t] H Q=dk bX_ [.agg [.sl x n 5]] H λa b c=>eF b (ax Q [.a [.sl none 0 5],nN 2000] a) (aC ax_ [c] a 5 (λa b d=>bW fS_ [nL b d 5,s,t] a 5 λa b _ _=>cP b 0 Q (.a [.sl none 0 5]) a (aG aS_ [c,s] a (λa b=>cD c a 5 0 b b λd e=>wr a d (e+tN b*5+0) t λa=>cD c a 5 0 b b λd e=>wr a d (e+tN b*5+1+1) (nN 2) λa=>bP co_ [c] a 5 Q (nN 0))))):=zz
theorem um_:am_ prog 72 (e4_):=sO (eZ kE_ func28 (eZ d5_ func66 (eZ uK_ func38 (eZ e9_ func52 (eZ g3_ func122 eN))))) nO func72
def fW_.cx:Cx:=⟨tys,[],[],[],[(44,gF_),(70,a4_),(71,cu_),(72,e4_)],aw_,[.cell 0 24]⟩
def fW_:=fF fW_.cx f26
theorem ul_:as_ fW_.cx f26 (k+1) [] H Q=bO gF_ [] H 5 λa b c=>d8 a4_ [.agg [.sl b c 5],mkS [119],mkS [],nN 0] a 5 cu_ (mkS [119]) (mkS [97]) (mkS [111,110,101]) 5 λa b c=>d8 e4_ [.agg [.sl b c 5],mkS [119],mkS [98,97,115,101]] a 5 a4_ (mkS [119,111,114,107]) (mkS [98,97,115,101]) (nN 0) 5 λa b c=>dz cu_ [.agg [.sl b c 5],mkS [119,111,114,107],mkS [98],mkS [116,119,111]] a 5 λa b c=>eH Q [.sl b c 5] a:=zz
theorem uS_:am_ prog 26 (fW_):=sO (eZ nj_ func44 (eZ r4_ func70 (eZ wv_ func71 (eZ um_ func72 eN)))) nO func26
end Go.Am
namespace Go.Am
open List
open Go.Proofs.Tryz
variable{E:Nat->Sm}{k:Nat}{H:Hp}{Q:Post}{U X Y Z u w x x1 y z:Pl}{D L M N O l m n n1 o:Nat}{I g h i j:Int}{C b b1 b2 c d:Bool}{R S e r s t:ByteArray}{A a:Option Nat}{p q:List (Nat×Nat)}{F:Sm}
def gC_.cx E:=(⟨tys,[],[],[],[(26,fW_),(15,(dS_ E)),(17,dG_),(21,e7_),(18,er_),(19,dp_)],E,[.tmp 0]⟩:Cx)
def gC_ E:=fF (gC_.cx E) f22
theorem wx_:as_ (gC_.cx E) f22 (k+1) [] H Q=bO fW_ [] H 5 λa b c=>bz (dS_ E) [.agg [.sl b c 5],mkS [119,111,114,107],mkS [97]] a λa d e=>bf d λd=>bY dG_ [.agg [.sl b c 5],mkS [119,111,114,107],mkS [97],mkS [115,105,120]] a 5 λa f g h=>bf f λf=>bW e7_ [.agg [.sl g h 5]] a 5 λa g h i=>aX g (bY er_ [.agg [.sl b c 5],mkS [119,111,114,107],mkS [98]] a 5 (λa g j l=>bf g λg=>bW e7_ [.agg [.sl j l 5]] a 5 λa j l m=>aX j (bh dG_ [.agg [.sl b c 5],mkS [98,97,115,101],mkS [97],mkS []] a (λa j n=>aA n 5 λn _ _=>uN n (bf j (λj=>bz (dS_ E) [.agg [.sl b c 5],mkS [98,97,115,101],mkS [122]] a λa b _=>bf b λb=>bz (dS_ E) [.agg [.sl none 0 5],mkS [98,97,115,101],mkS [97]] a λa c _=>bf c λc=>d9 (nI i) 2 Q a (d9 (nI m) 2 Q a (bV (leI 0 0&&ltI 0 (nI i)) h a (tN 0*5) 3 (λ_ n=>d9 (nI n) 1 Q a (bV (leI 0 1&&ltI 1 (nI i)) h a (tN 1*5) 3 (λ_ n=>d9 (nI n) 2 Q a (eU e [111,110,101] (aG dp_ [d] a (λa d=>bk d 0 (bV (leI 0 1&&ltI 1 (nI i)) h a (tN 1*5) 3 (λd e=>dH (leI 0 0&&ltI 0 (nI e)) d a (tN 0*3) λd=>eU d [115,105,120] (bV (leI 0 0&&ltI 0 (nI i)) h a (tN 0*5) 3 (λd e=>dH (leI 0 0&&ltI 0 (nI e)) d a (tN 0*3) λd=>eU d [111,110,101] (aG dp_ [f] a (λa d=>bk d 0 (bV (leI 0 1&&ltI 1 (nI m)) l a (tN 1*5) 3 (λ_ d=>eO d 1 (aG dp_ [g] a (λa d=>bk d 0 (aG dp_ [j] a (λa d=>bk d 1905 (aG dp_ [b] a (λa b=>bk b 1908 (aG dp_ [c] a (λa b=>cT Q b 2000 a)) (aS Q a))) (aS Q a))) (aS Q a))) (aS Q a))) (aS Q a))) (aS Q a))) (aS Q a))) (aS Q a))) (aS Q a))))))))))))):=zz
theorem xn_(E)(h:eE E):am_ prog 22 (gC_ E):=sO (eZ uS_ func26 (eZ (pm_ E h) func15 (eZ on_ func17 (eZ xj_ func21 (eZ uu_ func18 (eZ tW_ func19 eN)))))) h func22
def fx_.cx E:=(⟨tys,[],[],[],[(22,(gC_ E)),(17,dG_),(19,dp_),(20,b3_),(15,(dS_ E))],E,[.tmp 12]⟩:Cx)
def fx_ E:=fF (fx_.cx E) f4
theorem pd_:as_ (fx_.cx E) f4 (k+1) [.agg [.sl x n 5],s,t,r,S,R] H Q=dg (gC_ E) [] H Q λa=>bY dG_ [.agg [.sl x n 5],s,t,r] a 5 λa b c d=>bf b λb=>aG dp_ [b] a λa b=>bc b 0 (cf b3_ [.agg [.sl c d 5],.agg [.sl none 0 5]] a Q) (bz (dS_ E) [.agg [.sl c d 5],s,t] a (λa b e=>bf b λb=>bz (dS_ E) [.agg [.sl x n 5],S,R] a λa f g=>bf f λf=>bz (dS_ E) [.agg [.sl c d 5],S,R] a λa c d=>bf c λc=>aG dp_ [b] a λa b=>d9 b 0 Q a (dl e r (aS Q a) (cJ S s (cJ R t (Q true a) (cJ g d (aG dp_ [f] a (λa b=>aG dp_ [c] a λa c=>cT Q b c a)) (aS Q a))) (cJ g d (aG dp_ [f] a (λa b=>aG dp_ [c] a λa c=>cT Q b c a)) (aS Q a)))))):=zz
theorem o8_(E)(h:eE E):am_ prog 4 (fx_ E):=sO (eZ (xn_ E h) func22 (eZ on_ func17 (eZ tW_ func19 (eZ rZ_ func20 (eZ (pm_ E h) func15 eN))))) h func4
end Go.Am
namespace Go.Am
open List
open Go.Proofs.Tryz
variable{E:Nat->Sm}{k:Nat}{H:Hp}{Q:Post}{U X Y Z u w x x1 y z:Pl}{D L M N O l m n n1 o:Nat}{I g h i j:Int}{C b b1 b2 c d:Bool}{R S e r s t:ByteArray}{A a:Option Nat}{p q:List (Nat×Nat)}{F:Sm}
end Go.Am
namespace Go.Am
open List
theorem oz_:cR_ ((f,s)::l) f=s:=by simp[cR_]
theorem pY_(h:f≠g):cR_ ((g,s)::l) f=cR_ l f:=by
 unfold cR_;grind
theorem pt_(r:Q (gB (decide (1<=s.size)&&decide (s.size<=6))) H):dk_ [gS s] H Q:=by
 refine⟨1,?_⟩;rw[Be_];refine aa_ (λh=>?_) λh=>?_
 .simp[kI_]at h ⊢;rw[lE (show 1<=s.size by omega),Bool.true_and]at r;rw[show decide ((s.size:Int)<=6)=decide (s.size<=6) by rw[decide_eq_decide];omega];exact r
 .simp[kI_]at h;grind
theorem mC_(h:Q (gB (decide (s.size<=10))) H):cq_ [gS s] H Q:=by
 refine⟨1,?_⟩;rw[xy_];simp[kI_];rw[show decide ((s.size:Int)<=10)=decide (s.size<=10) by rw[decide_eq_decide];omega];exact h
theorem xT_(r:Q (gB (decide (1<=k)&&decide (k<48))) H):dK_ [gI k] H Q:=by
 refine⟨1,?_⟩;rw[B7_];refine aa_ (λh=>?_) λh=>?_
 .simp_all
 .simp at h;grind
def id_(xs:List Y_):Prop:=∀i,(h:i+1<xs.length)->dE_ (xs[i]'o_) xs[i+1]=true
theorem sy_ (h:Ss H a n xs) (F:∀b,(b=true↔id_ xs)->Q (gB b) H):
 ∀m k:Nat,xs.length-k=m->(∀i,(hi:i+1<xs.length)->i<k->dE_ (xs[i]'o_) xs[i+1]=true)->∃f,cK_.l2 f a n ((k+1:Nat):Int) H Q:=by
 intro m;have U:=h.len;have G:=h.lim;induction m with
 |zero=>
  refine λk I C=>⟨1,?_⟩;rw[cK_.l2_eq,show ltI ((k+1:Nat)) (nI n)=false by simp;omega,gq_];exact F true ⟨λ_ i hi=>C i hi o_,λ_=>rfl⟩
 | succ m O=>
  intro k I C;by_cases r:k+1<xs.length
  ·have A:ltI ((k+1:Nat)) (nI n)=true:=by simp;omega
   cases D:dE_ (xs[k]'o_) xs[k+1] with
   | true=>
    have⟨f,N⟩:=O (k+1) o_ (λi hi J=>by
     by_cases e:i=k
     .grind
     .exact C i hi o_)
    refine⟨f+1,?_⟩;rw[cK_.l2_eq,az_ A,af_,h.rd k (d9_ o_) o_,af_,h.rd (k+1) rfl r,aA_ g_,an_ o_];exact N
   |false=>
    refine⟨1,?_⟩;rw[cK_.l2_eq,az_ A,af_,h.rd k (d9_ o_) o_,af_,h.rd (k+1) rfl r,az_ (by rw[D];rfl)];refine F false ⟨λq=>(by cases q),λq=>?_⟩;rw[q k r]at D;cases D
  .refine⟨1,?_⟩;rw[cK_.l2_eq,show ltI ((k+1:Nat)) (nI n)=false by simp;omega,gq_];exact F true ⟨λ_ i hi=>C i hi o_,λ_=>rfl⟩
theorem tb_(h:Ss H a n xs)(A:∀b,(b=true↔id_ xs)->Q (gB b) H):cK_ [nL a n 1] H Q:=by
 have⟨f,r⟩:=sy_ h A _ 0 rfl (λi C h=>by omega);exact⟨f+1,r⟩
theorem lX_{p:Y_->Bool}(A:∀(s:Y_)(H:Hp)(Q:Post),Q (gB (p s)) H->E f [gS s] H Q)(h:gt H l 0=some (.fn f []))
 (r:Q (gB (!(p s))) H):c4_ E [gS s,yQ l] H Q:=by
 refine⟨1,?_⟩;rw[nS_,ae_ h,IA_];exact A s H _ r
theorem q6_ {p:Y_->Bool} (I:∀(s:Y_)(Q:Post),Q (gB (p s)) H->E g [gS s,yQ l] H Q)
 (h:Ss H a n xs) (V:∀i:Int,(0<=i↔∃s∈xs,p s=true)->Q (gI i) H):
 ∀m k:Nat,xs.length-k=m->k<=xs.length->(∀i,(hi:i<xs.length)->i<k->p xs[i]=false)->∃f,aM_.l2 E f a n g [(l,0)] (nI n) (k:Int) H Q:=by
 intro m;have Y:=h.len;have F:=h.lim;induction m with
 |zero=>
  refine λk J D G=>⟨1,?_⟩;rw[aM_.l2_eq,show ltI k (nI n)=false by simp;omega,gq_];refine V _ ⟨λq=>by omega,fun⟨s,C,W⟩=>?_⟩;obtain⟨i,hi,rfl⟩:=kK C;grind
 | succ m U=>
  intro k J D G;have r:k<xs.length:=by omega
  have A:ltI k (nI n)=true:=by simp;omega
  cases C:p xs[k] with
  | false=>
   have⟨f,O⟩:=U (k+1) o_ o_ (λi hi N=>by
    by_cases e:i=k
    .grind
    .exact G i hi o_)
   refine⟨f+1,?_⟩;rw[aM_.l2_eq,az_ A,af_,h.rd k rfl r];refine I _ _ ?_;rw[aN_,ao_,C,gq_,an_ o_];exact O
  |true=>
   refine⟨1,?_⟩;rw[aM_.l2_eq,az_ A,af_,h.rd k rfl r];refine I _ _ ?_;rw[aN_,ao_,C,ov_];grind
theorem iD_ {p:Y_->Bool} (O:∀(s:Y_)(H:Hp)(Q:Post),Q (gB (p s)) H->E f [gS s] H Q)
 (h:Ss H a n xs) (D:∀b H',H<+:H'->(b=true↔∀s∈xs,p s=true)->Q (gB b) H'):eg_ E [nL a n 1,.g (.fn f [])] H Q:=by
 refine⟨1,?_⟩;have F:=b7_ H (.row true KB_ [.fn f []]);refine⟨1,?_⟩;have⟨k,N⟩:=q6_ (E:=cR_ [(IS_,c4_ E)]) (g:=IS_) (l:=H.length)
  (λs Q D=>lX_ O (by simp[gt]) D) (Q:=λr J=>rG r λC=>dI .i64 C λI=>rG (gB (leI 0 I)) λC=>dB C λb3=>Q (gB (!b3)) J) (h.mono F)
  (fun i G=>by
   rw[aN_,ai_,aN_,ao_];refine D _ _ F ?_;simp only[kI_,Bool.not_eq_true',decide_eq_false_iff_not];rw[G];constructor
   .intro q s A;cases e:p s with
    |true=>rfl
    |false=>exact (q ⟨s,A,g_⟩).elim
   .rintro q ⟨s,A,e⟩;rw[q s A]at e;cases e) _ 0 rfl (kP _) (λi G h=>by omega)
 exact⟨k+1,N
⟩
theorem oS_{p:Int->Bool}(A:∀(s:Int)(H:Hp)(Q:Post),Q (gB (p s)) H->E f [gI s] H Q)(h:gt H l 0=some (.fn f []))
 (r:Q (gB (!(p s))) H):d0_ E [gI s,yQ l] H Q:=by
 refine⟨1,?_⟩;rw[rn_,ae_ h,IA_];exact A s H _ r
theorem xe_ {p:Int->Bool} {g l:Nat} (I:∀(s:Int)(Q:Post),Q (gB (p s)) H->E g [gI s,yQ l] H Q)
 (h:Is H a n xs) (V:∀i:Int,(0<=i↔∃s∈xs,p s=true)->Q (gI i) H):
 ∀m k:Nat,xs.length-k=m->k<=xs.length->(∀i,(hi:i<xs.length)->i<k->p xs[i]=false)->∃f,aY_.l2 E f a n g [(l,0)] (nI n) (k:Int) H Q:=by
 intro m;have Y:=h.len;have F:=h.lim;induction m with
 |zero=>
  refine λk J D G=>⟨1,?_⟩;rw[aY_.l2_eq,show ltI k (nI n)=false by simp;omega,gq_];refine V _ ⟨λq=>by omega,fun⟨s,C,W⟩=>?_⟩;obtain⟨i,hi,rfl⟩:=kK C;grind
 | succ m U=>
  intro k J D G;have r:k<xs.length:=by omega
  have A:ltI k (nI n)=true:=by simp;omega
  cases C:p xs[k] with
  | false=>
   have⟨f,O⟩:=U (k+1) o_ o_ (λi hi N=>by
    by_cases e:i=k
    .grind
    .exact G i hi o_)
   refine⟨f+1,?_⟩;rw[aY_.l2_eq,az_ A,af_,h.rd k rfl r];refine I _ _ ?_;rw[aN_,ao_,C,gq_,an_ o_];exact O
  |true=>
   refine⟨1,?_⟩;rw[aY_.l2_eq,az_ A,af_,h.rd k rfl r];refine I _ _ ?_;rw[aN_,ao_,C,ov_];grind
theorem qQ_ {p:Int->Bool} (O:∀(s:Int)(H:Hp)(Q:Post),Q (gB (p s)) H->E f [gI s] H Q)
 (h:Is H a n xs) (D:∀b H',H<+:H'->(b=true↔∀s∈xs,p s=true)->Q (gB b) H'):gK_ E [nL a n 1,.g (.fn f [])] H Q:=by
 refine⟨1,?_⟩;have F:=b7_ H (.row true KC_ [.fn f []]);refine⟨1,?_⟩;have⟨k,N⟩:=xe_ (E:=cR_ [(IO_,d0_ E)]) (g:=IO_) (l:=H.length)
  (λs Q D=>oS_ O (by simp[gt]) D) (Q:=λr J=>rG r λC=>dI .i64 C λI=>rG (gB (leI 0 I)) λC=>dB C λb3=>Q (gB (!b3)) J) (h.mono F)
  (fun i G=>by
   rw[aN_,ai_,aN_,ao_];refine D _ _ F ?_;simp only[kI_,Bool.not_eq_true',decide_eq_false_iff_not];rw[G];constructor
   .intro q s A;cases e:p s with
    |true=>rfl
    |false=>exact (q ⟨s,A,g_⟩).elim
   .rintro q ⟨s,A,e⟩;rw[q s A]at e;cases e) _ 0 rfl (kP _) (λi G h=>by omega)
 exact⟨k+1,N⟩
def IC_(zs:List Int):Prop:=∀i,(h:i+1<zs.length)->zs[i]'o_≠zs[i+1]
theorem Is.row{C:List Int}(h:H[l]?=some (.row own t (C.map (GV.int .i64))))(D:o+n=C.length)(r:n*8<=140737488351232):Is H (some (l,o)) n (C.drop o):=
 ⟨by simp only[cells?,h];rw[if_pos g_];rw[<-map_drop,<-map_take,k7 g_],g_,r⟩
theorem Dn_ {H0:Hp} {l n o n2:Nat} {Q:Post} (hb:H0.length<=l) (hlim:n*8<=140737488351232) (hon:o+n2=n) (hQ:∀(j:Nat) H',H0<+:H'->j<n->Q (nL (some (l,0)) j 1) H'):
 ∀(m' m j:Nat)(H:Hp)(ws:List Int),n2-m=m'->1<=m->m<=n2->1<=j->j+1<=o+m->H0<+:H->H[l]?=some (.row true tI (ws.map (GV.int .i64)))->ws.length=n->
  ∃f,ar_.l9 f (some (l,0)) n (j:Int) (some (l,o)) n2 (m:Int) H Q:=by
 intro m';induction m' with
 | zero=>
  intro m j H ws hm h1 h2 hj hjo h0 hrow hw;refine⟨1,?_⟩;obtain⟨d,hd⟩:∃d,n-j=d+1:=⟨n-j-1,o_⟩;rw[ar_.l9_eq,aA_ s_,af_];refine ab_ t_ (ab_ s_ ?_);simp only[Dt_,Int.toNat_natCast,Nat.mul_one,w3_,kN,af_,hd];show (match H[l]? with
   |some (.row true t cs)=>j+(d+1)*1<=cs.length/\_
   |_=>False)
  rw[hrow];refine⟨s_,ab_ t_ (ab_ s_ ?_)⟩;exact hQ j _ (dI_ h0 hb _) o_
 | succ m' ih=>
  intro m j H ws hm h1 h2 hj hjo h0 hrow hw;have hI:=Is.row (o:=o) (n:=n2) hrow o_ o_;have hmn:m<(ws.drop o).length:=by simp;omega
  obtain⟨m1,rfl⟩:∃m1,m=m1+1:=⟨m-1,o_⟩;have hm1:m1<(ws.drop o).length:=by omega
  have hlt:ltI ((m1+1:Nat):Int) (nI n2)=true:=by simp;omega
  by_cases he:(ws.drop o)[m1+1]=(ws.drop o)[m1]
  .obtain⟨f,hf⟩:=ih (m1+1+1) j H ws o_ o_ o_ hj o_ h0 hrow hw;refine⟨f+1,?_⟩;rw[ar_.l9_eq,az_ hlt,af_,hI.rd (m1+1) rfl hmn,af_,hI.rd m1 (d9_ o_) hm1,aA_ (by simpa using he),an_ o_];exact hf
  ·have hjn:j<(ws.map (GV.int .i64)).length:=by simp;omega
   obtain⟨f,hf⟩:=ih (m1+1+1) (j+1) (H.set l (.row true tI ((ws.set j (ws.drop o)[m1+1]).map (GV.int .i64)))) (ws.set j (ws.drop o)[m1+1]) o_ o_ o_ o_ o_ (dI_ h0 hb _)
    (by rw[kH];exact (kC.1 hrow).1) (by simpa using hw)
   refine⟨f+1,?_⟩;rw[ar_.l9_eq,az_ hlt,af_,hI.rd (m1+1) rfl hmn,af_,hI.rd m1 (d9_ o_) hm1,az_ (by simpa using he),af_,hI.rd (m1+1) rfl hmn,af_];refine ab_ s_ ?_;simp only[Dt_,Int.toNat_natCast,Nat.mul_one,ad_,kN];rw[rX_ hrow hjn,an_ o_,an_ o_];rw[List.map_set]at hf;exact hf
theorem z6_ {H0 H:Hp} {l:Nat} {zs:List Int} {Q:Post} (h0:H0<+:H) (hb:H0.length<=l) (hrow:H[l]?=some (.row true tI (zs.map (GV.int .i64)))) (hlim:zs.length*8<=140737488351232)
 (hQ:∀(a:Pl)(j:Nat) H',H0<+:H'->(j=zs.length↔IC_ zs)->Q (nL a j 1) H'):ar_ [nL (some (l,0)) zs.length 1] H Q:=by
 have hI:=Is.row (o:=0) (n:=zs.length) hrow o_ hlim;rw[drop_zero]at hI;have loop:∀m k:Nat,zs.length-k=m->k+1<=zs.length->(∀i,(h:i+1<zs.length)->i<k->zs[i]'o_≠zs[i+1])->∃f,ar_.l4 f (some (l,0)) zs.length ((k+1:Nat):Int) H Q:=by
  intro m;induction m with
  |zero=>intro k hm hk;omega
  | succ m ih=>
   intro k hm hk hne;by_cases hkn:k+1<zs.length
   ·have hlt:ltI ((k+1:Nat):Int) (nI zs.length)=true:=by simp;omega
    by_cases he:zs[k+1]=zs[k]'o_
    ·obtain⟨f,hf⟩:=Dn_ (H0:=H0) (l:=l) (n:=zs.length) (o:=k+1) (n2:=zs.length-(k+1)) (Q:=Q) hb hlim o_ (λj H' h1 h2=>hQ _ j H' h1 ⟨λe=>by omega,λq=>(q k hkn he.symm).elim⟩)
      _ 1 (k+1) H zs rfl o_ o_ o_ o_ h0 hrow rfl
     refine⟨f+1,?_⟩;rw[ar_.l4_eq,az_ hlt,af_,hI.rd (k+1) rfl hkn,af_,hI.rd k (d9_ o_) o_,az_ (by simpa using he),af_];refine ab_ s_ (ab_ s_ ?_);simp only[Dt_,Int.toNat_natCast,Nat.mul_one,w3_,kN];exact hf
    ·obtain⟨f,hf⟩:=ih (k+1) o_ o_ (λi hi hik=>by
      by_cases e:i=k
      .subst e;exact λq=>he q.symm
      .exact hne i hi o_)
     refine⟨f+1,?_⟩;rw[ar_.l4_eq,az_ hlt,af_,hI.rd (k+1) rfl hkn,af_,hI.rd k (d9_ o_) o_,aA_ (by simpa using he),an_ o_];exact hf
   .refine⟨1,?_⟩;rw[ar_.l4_eq,aA_ s_];exact hQ _ _ _ h0 ⟨λ_ i hi=>hne i hi o_,λ_=>rfl⟩
 by_cases h2:zs.length<2
 .refine⟨1,?_⟩;rw[eN_,az_ s_];exact hQ _ _ _ h0 ⟨λ_ i hi=>by omega,λ_=>rfl⟩
 .obtain⟨f,hf⟩:=loop _ 0 rfl o_ (λi hi h=>by omega);refine⟨f+1,?_⟩;rw[eN_,aA_ s_];exact hf
theorem zZ_ {zs:List Int}:IC_ (zs.mergeSort λx y=>decide (x<=y))↔zs.Nodup:=by
 have G:=mergeSort_perm zs λx y=>decide (x<=y);have A:(zs.mergeSort λx y=>decide (x<=y)).Pairwise λx y=>x<=y:=by
  have:=pairwise_mergeSort (le:=λ(x y:Int)=>decide (x<=y)) (λa b c D C=>by grind) (λa b=>by simp;omega) zs;grind
 rw[<-G.nodup_iff];generalize (zs.mergeSort λx y=>decide (x<=y))=ws at A;constructor
 ·intro h;rw[Nodup,kS];have key:∀d i,(r:i+d+1<ws.length)->ws[i]'o_<ws[i+d+1]:=by
   intro d;induction d with
   |zero=>
    intro i r;have D:=(kS.1 A) i (i+1) o_ o_ o_;have C:=h i o_;grind
   |succ d F=>
    intro i r;have D:=F i o_;have C:=(kS.1 A) (i+d+1) (i+(d+1)+1) o_ o_ o_;omega
  intro i j r J I;obtain⟨d,rfl⟩:∃d,j=i+d+1:=⟨j-i-1,o_⟩;grind
 .exact λh i r=>(kS.1 h) i (i+1) o_ o_ o_
theorem tz_ (h:Is H a n zs) (U:∀b H',H<+:H'->(b=true↔zs.Nodup)->Q (gB b) H'):gn_ E [nL a n 1] H Q:=by
 refine⟨1,?_⟩;rw[wy_];refine⟨1,⟨1,?_⟩⟩;rw[or_];refine⟨1,?_⟩;rw[mY_];have C:=h.len;have G:=h.lim;have J:=b7_ H (.row true tIs [.sl a n 1]);refine⟨H.length,tIs,[.sl a n 1],a,n,zs,rfl,t_,rfl,(h.mono J).cells,by unfold Lim;omega,λI=>?_,λI=>?_⟩
 .simp[aN_];refine .inl ⟨rfl,⟨1,?_⟩⟩;rw[eN_,az_ t_];simp_all
 ·simp only[aN_,ah_];refine .inr ⟨(H++[Obj.row true tIs [.sl a n 1]]).length,zs,rfl,I,by unfold Lim;omega,t_,?_⟩;have e:((H++[Obj.row true tIs [.sl a n 1]])++[Obj.row true tI (zs.map (GV.int .i64))]).set (H++[Obj.row true tIs [.sl a n 1]]).length (Obj.row true tI ((zs.mergeSort λx y=>decide (x<=y)).map (GV.int .i64)))=
   (H++[Obj.row true tIs [.sl a n 1]])++[Obj.row true tI ((zs.mergeSort λx y=>decide (x<=y)).map (GV.int .i64))]:=by
   grind
  simp only[fl_];rw[e];have A:(zs.mergeSort λx y=>decide (x<=y)).length=zs.length:=by simp
  have key:=z6_ (H:=(H++[Obj.row true tIs [.sl a n 1]])++[Obj.row true tI ((zs.mergeSort λx y=>decide (x<=y)).map (GV.int .i64))]) (l:=(H++[Obj.row true tIs [.sl a n 1]]).length)
   (zs:=zs.mergeSort λx y=>decide (x<=y)) (J.trans (prefix_append _ _)) t_ t_ o_
   (Q:=λW V=>rG W λD=>dL 1 D λO F=>Q (gB (eqI (nI F) (nI n))) V) (λZ j H' N Y=>by
    simp[aN_];refine U _ _ N ?_;rw[<-zZ_,<-Y,A,<-C];simp;omega)
  rw[A]at key;exact key
structure Pg where
 used:Bool
 leaf:Bool
 keys:List Y_
 vals:List Y_
 kids:List Int
structure jn_(H:Hp)(u l:Bool)(a1:Pl)(n1:Nat)(a2:Pl)(n2:Nat)(a3:Pl)(n3:Nat)(p:Pg):Prop where
 used:p.used=u
 leaf:p.leaf=l
 keys:Ss H a1 n1 p.keys
 vals:Ss H a2 n2 p.vals
 kids:Is H a3 n3 p.kids
theorem jn_.mono{H H':Hp}(r:H<+:H')(h:jn_ H u l a1 n1 a2 n2 a3 n3 p):jn_ H' u l a1 n1 a2 n2 a3 n3 p:=
 ⟨h.used,h.leaf,h.keys.mono r,h.vals.mono r,h.kids.mono r⟩
structure iJ_(p:Pg):Prop where
 used:p.used=true
 rising:id_ p.keys
 keys:∀k∈p.keys,1<=k.size/\k.size<=6
 leaf:p.leaf=true->p.vals.length=p.keys.length/\p.kids=[]/\∀v∈p.vals,v.size<=10
 inner:p.leaf=false->1<=p.keys.length/\p.vals=[]/\p.kids.length=p.keys.length+1/\(∀k∈p.kids,1<=k/\k<48)/\p.kids.Nodup
def fg_(p:Pg):Prop:=p.keys.length<=4/\iJ_ p
section
variable{H:Hp}{Q:Post}{u l:Bool}{a1:Pl}{n1:Nat}{a2:Pl}{n2:Nat}{a3:Pl}{n3:Nat}{p:Pg}
theorem ok_ (h:jn_ H u l a1 n1 a2 n2 a3 n3 p) (hQ:∀b H',H<+:H'->(b=true↔iJ_ p)->Q (gB b) H'):
 hu_ [.agg [.bool u,.bool l,.sl a1 n1 1,.sl a2 n2 1,.sl a3 n3 1]] H Q:=by
 obtain⟨hu,hl,hk,hv,hi⟩:=h;have n1e:=hk.len;have n2e:=hv.len;have n3e:=hi.len;have l1:=hk.lim;have l3:=hi.lim;have EK:∀(s:Y_)(H:Hp)(Q:Post),Q (gB (decide (1<=s.size)&&decide (s.size<=6))) H->cR_ [(Iw_,dk_),(HN_,cq_),(H9_,dK_)] Iw_ [gS s] H Q:=
  λs H Q q=>by rw[oz_];exact pt_ q
 have EV:∀(s:Y_)(H:Hp)(Q:Post),Q (gB (decide (s.size<=10))) H->cR_ [(Iw_,dk_),(HN_,cq_),(H9_,dK_)] HN_ [gS s] H Q:=
  λs H Q q=>by rw[pY_ d_,oz_];exact mC_ q
 have EI:∀(s:Int)(H:Hp)(Q:Post),Q (gB (decide (1<=s)&&decide (s<48))) H->cR_ [(Iw_,dk_),(HN_,cq_),(H9_,dK_)] H9_ [gI s] H Q:=
  λs H Q q=>by rw[pY_ d_,pY_ d_,oz_];exact xT_ q
 refine⟨1,?_⟩;rw[zC_];refine aa_ (λe=>hQ _ _ (k8 _) ⟨λq=>(by cases q),λq=>?_⟩) λe=>?_
 .rw[<-hu,q.used]at e;cases e
 refine tb_ hk λb hb=>?_;simp only[aN_,ao_];refine aa_ (λe1=>hQ _ _ (k8 _) ⟨λq=>(by cases q),λq=>?_⟩) λe1=>?_
 .rw[hb.2 q.rising]at e1;cases e1
 refine iD_ EK hk λb2 H2 p2 hb2=>?_;simp only[aN_,ao_];have hkeys:(∀k∈p.keys,1<=k.size/\k.size<=6)↔∀s∈p.keys,(decide (1<=s.size)&&decide (s.size<=6))=true:=by simp
 refine aa_ (λe2=>hQ _ _ p2 ⟨λq=>(by cases q),λq=>?_⟩) λe2=>?_
 .rw[hb2.2 (hkeys.1 q.keys)]at e2;cases e2
 have hR:id_ p.keys:=hb.1 (by cases b<;>simp_all);have hK:=hkeys.2 (hb2.1 (by cases b2<;>simp_all));have hU:p.used=true:=by rw[hu];cases u<;>simp_all
 refine aa_ (λe3=>?_) λe3=>?_
 .have hL:p.leaf=true:=by rw[hl];exact e3
  refine aa_ (λe4=>?_) λe4=>hQ _ _ p2 ⟨λq=>(by cases q),λq=>?_⟩
  rotate_left
  .have:=(q.leaf hL).1;simp at e4;omega
  refine aa_ (λe5=>?_) λe5=>hQ _ _ p2 ⟨λq=>(by cases q),λq=>?_⟩
  rotate_left
  .have:=(q.leaf hL).2.1;simp[this]at n3e;simp at e5;omega
  refine iD_ EV (hv.mono p2) λb3 H3 p3 hb3=>?_;simp only[aN_,ao_];refine hQ _ _ (p2.trans p3) (hb3.trans ⟨λq=>⟨hU,hR,hK,λ_=>⟨?_,?_,by simpa using q⟩,λq=>(by rw[hL]at q;cases q)⟩,λq=>by simpa using (q.leaf hL).2.2⟩)
  .simp at e4;omega
  .simp at e5;exact eq_nil_of_length_eq_zero o_
 .have hL:p.leaf=false:=by rw[hl];exact e3
  refine aa_ (λe4=>?_) λe4=>hQ _ _ p2 ⟨λq=>(by cases q),λq=>?_⟩
  rotate_left
  .have:=(q.inner hL).1;simp at e4;omega
  refine aa_ (λe5=>?_) λe5=>hQ _ _ p2 ⟨λq=>(by cases q),λq=>?_⟩
  rotate_left
  .have:=(q.inner hL).2.1;simp[this]at n2e;simp at e5;omega
  refine aa_ (λe6=>?_) λe6=>hQ _ _ p2 ⟨λq=>(by cases q),λq=>?_⟩
  rotate_left
  .have:=(q.inner hL).2.2.1;simp only[i7_]at e6;rw[an_ o_]at e6;simp at e6;omega
  simp only[i7_]at e6;rw[an_ o_]at e6;refine qQ_ EI (hi.mono p2) λb3 H3 p3 hb3=>?_;simp only[aN_,ao_];refine aa_ (λe7=>?_) λe7=>hQ _ _ (p2.trans p3) ⟨λq=>(by cases q),λq=>?_⟩
  rotate_left
  .rw[hb3.2 (by simpa using (q.inner hL).2.2.2.1)]at e7;cases e7
  refine tz_ (hi.mono (p2.trans p3)) λb4 H4 p4 hb4=>?_;simp only[aN_,ao_];refine hQ _ _ ((p2.trans p3).trans p4) (hb4.trans ⟨λq=>⟨hU,hR,hK,λq=>(by rw[hL]at q;cases q),λ_=>⟨?_,?_,?_,by simpa using hb3.1 e7,q⟩⟩,λq=>(q.inner hL).2.2.2.2⟩)
  .simp at e4;omega
  .simp at e5;exact eq_nil_of_length_eq_zero o_
  .simp at e6;omega
theorem iu_(h:jn_ H u l a1 n1 a2 n2 a3 n3 p)(r:∀b H',H<+:H'->(b=true↔fg_ p)->Q (gB b) H'):
 g7_ [.agg [.bool u,.bool l,.sl a1 n1 1,.sl a2 n2 1,.sl a3 n3 1]] H Q:=by
 have D:=h.keys.len;refine⟨1,aa_ (λe=>?_) λe=>r _ _ (k8 _) ⟨λq=>g_,λq=>?_⟩⟩
 .refine ok_ h λb H' A C=>?_;simp at e;exact r _ _ A (C.trans ⟨λq=>⟨o_,q⟩,λq=>q.2⟩)
 .have:=q.1;simp at e;omega
theorem gY_ {xs:List Y_} (h:Ss H a1 n1 xs) (hQ:∀b,(b=true↔(id_ xs/\∀k∈xs,1<=k.size/\k.size<=6))->Q (gB b) H):bP_ [nL a1 n1 1] H Q:=by
 have hn:=h.len;have hlim:=h.lim;have loop:∀m k:Nat,xs.length-k=m->k<=xs.length->(∀i,(hi:i<xs.length)->i<k->1<=xs[i].size/\xs[i].size<=6)->(∀i,(hi:i+1<xs.length)->i+1<k->dE_ (xs[i]'o_) xs[i+1]=true)->
  ∃f,bP_.l2 f a1 n1 (k:Int) H Q:=by
  intro m;induction m with
  |zero=>
   intro k hm hle h1 h2;refine⟨1,?_⟩;rw[bP_.l2_eq,aA_ s_];exact hQ true ⟨λ_=>⟨λi hi=>h2 i hi o_,λs hs=>by obtain⟨i,hi,rfl⟩:=kK hs;exact h1 i hi o_⟩,λ_=>rfl⟩
  | succ m ih=>
   intro k hm hle h1 h2;have hkn:k<xs.length:=by omega
   have hlt:ltI (k:Int) (nI n1)=true:=by simp;omega
   by_cases c1:xs[k].size<1
   .refine⟨1,?_⟩;rw[bP_.l2_eq,az_ hlt,af_,h.rd k rfl hkn,az_ s_];exact hQ false ⟨λq=>(by cases q),λq=>by have:=(q.2 _ (kE hkn)).1;omega⟩
   by_cases c2:6<xs[k].size
   .refine⟨1,?_⟩;rw[bP_.l2_eq,az_ hlt,af_,h.rd k rfl hkn,aA_ s_,af_,h.rd k rfl hkn,az_ s_];exact hQ false ⟨λq=>(by cases q),λq=>by have:=(q.2 _ (kE hkn)).2;omega⟩
   have h1':∀i,(hi:i<xs.length)->i<k+1->1<=xs[i].size/\xs[i].size<=6:=λi hi hik=>by
    by_cases e:i=k
    .subst e;omega
    .exact h1 i hi o_
   cases k with
   |zero=>
    obtain⟨f,hf⟩:=ih 1 o_ o_ h1' (λi hi h=>by omega);refine⟨f+1,?_⟩;rw[bP_.l2_eq,az_ hlt,af_,h.rd 0 rfl hkn,aA_ s_,af_,h.rd 0 rfl hkn,aA_ s_,aA_ t_,an_ o_];exact hf
   | succ k=>
    cases hs:dE_ (xs[k]'o_) xs[k+1] with
    | true=>
     obtain⟨f,hf⟩:=ih (k+1+1) o_ o_ h1' (λi hi hik=>by
      by_cases e:i=k
      .subst e;exact hs
      .exact h2 i hi o_)
     refine⟨f+1,?_⟩;rw[bP_.l2_eq,az_ hlt,af_,h.rd (k+1) rfl hkn,aA_ s_,af_,h.rd (k+1) rfl hkn,aA_ s_,az_ (by simp<;>omega),af_,h.rd (k+1) rfl hkn,af_,
      h.rd k (d9_ o_) o_,aA_ (by rw[yr_]at hs;simpa using hs),an_ o_]
     exact hf
    | false=>
     refine⟨1,?_⟩;rw[bP_.l2_eq,az_ hlt,af_,h.rd (k+1) rfl hkn,aA_ s_,af_,h.rd (k+1) rfl hkn,aA_ s_,az_ (by simp<;>omega),af_,h.rd (k+1) rfl hkn,af_,
      h.rd k (d9_ o_) o_,az_ (by rw[yr_]at hs;rw[ox_];rw[Bool.not_eq_false']at hs;exact hs)]
     exact hQ false ⟨λq=>(by cases q),λq=>by rw[q.1 k hkn]at hs;cases hs⟩
 obtain⟨f,hf⟩:=loop _ 0 rfl (kP _) (λi hi h=>by omega) (λi hi h=>by omega);exact⟨f+1,by rw[wH_];exact hf⟩
theorem pZ_ {most:Nat} (hmost:most<=1000) (h:jn_ H u l a1 n1 a2 n2 a3 n3 p) (hQ:∀b,(b=true↔(p.keys.length<=most/\iJ_ p))->Q (gB b) H):
 aI_ [.agg [.bool u,.bool l,.sl a1 n1 1,.sl a2 n2 1,.sl a3 n3 1],gI most] H Q:=by
 obtain⟨hu,hl,hk,hv,hi⟩:=h;have n1e:=hk.len;have n2e:=hv.len;have n3e:=hi.len;have l1:=hk.lim;have l2:=hv.lim;have l3:=hi.lim;have leafs:p.leaf=true->(∀b,(b=true↔(p.vals.length=p.keys.length/\p.kids=[]/\∀v∈p.vals,v.size<=10))->Q (gB b) H)->∀m k:Nat,p.vals.length-k=m->k<=p.vals.length->(∀i,(hi:i<p.vals.length)->i<k->(p.vals[i]).size<=10)->
  ∃f,aI_.l5 f u l a1 n1 a2 n2 a3 n3 (k:Int) H Q:=by
  intro hL hQ' m;induction m with
  |zero=>
   intro k hm hle h1;refine⟨1,?_⟩;rw[aI_.l5_eq,aA_ s_];have hall:∀v∈p.vals,v.size<=10:=λs hs=>by obtain⟨i,hi,rfl⟩:=kK hs;exact h1 i hi o_
   refine aa_ (λe=>hQ' _ ?_) λe=>hQ' _ ⟨λq=>(by cases q),λq=>?_⟩
   .simp at e ⊢;refine⟨λq=>⟨o_,eq_nil_of_length_eq_zero o_,hall⟩,λq=>?_⟩;have:=q.2.1;rw[this]at n3e;exact n3e
   .have:=q.1;simp at e;omega
  | succ m ih=>
   intro k hm hle h1;have hkn:k<p.vals.length:=by omega
   have hlt:ltI (k:Int) (nI n2)=true:=by simp;omega
   by_cases c1:10<(p.vals[k]).size
   .refine⟨1,?_⟩;rw[aI_.l5_eq,az_ hlt,af_,hv.rd k rfl hkn,az_ s_];exact hQ' false ⟨λq=>(by cases q),λq=>by have:=q.2.2 _ (kE hkn);omega⟩
   ·obtain⟨f,hf⟩:=ih (k+1) o_ o_ (λi hi hik=>by
     by_cases e:i=k
     .subst e;omega
     .exact h1 i hi o_)
    refine⟨f+1,?_⟩;rw[aI_.l5_eq,az_ hlt,af_,hv.rd k rfl hkn,aA_ s_,an_ o_];exact hf
 have inners:p.leaf=false->(∀b,(b=true↔(1<=p.keys.length/\p.vals=[]/\p.kids.length=p.keys.length+1/\(∀k∈p.kids,1<=k/\k<48)/\p.kids.Nodup))->Q (gB b) H)->∀m k:Nat,p.kids.length-k=m->k<=p.kids.length->
  (∀i,(hi:i<p.kids.length)->i<k->1<=p.kids[i]/\p.kids[i]<48)->(∀i j,(hj:j<p.kids.length)->(hij:i<j)->j<k->p.kids[i]'o_≠p.kids[j])->
  ∃f,aI_.l11 f u l a1 n1 a2 n2 a3 n3 (k:Int) H Q:=by
  intro hL hQ' m;induction m with
  | zero=>
   intro k hm hle h1 h2;refine⟨1,?_⟩;rw[aI_.l11_eq,aA_ s_];have hall:∀v∈p.kids,1<=v/\v<48:=λs hs=>by obtain⟨i,hi,rfl⟩:=kK hs;exact h1 i hi o_
   have hnd:p.kids.Nodup:=by
    rw[Nodup,kS];exact λi j _ hj hij=>h2 i j hj hij o_
   refine aa_ (λe=>?_) λe=>hQ' _ ⟨λq=>(by cases q),λq=>?_⟩
   rotate_left
   .have:=q.1;simp at e;omega
   refine aa_ (λe2=>hQ' _ ?_) λe2=>hQ' _ ⟨λq=>(by cases q),λq=>?_⟩
   rotate_left
   .have:=q.2.1;rw[this]at n2e;simp at e2 n2e;omega
   simp only[i7_];rw[an_ o_];simp at e e2 ⊢;exact⟨λq=>⟨o_,eq_nil_of_length_eq_zero o_,o_,hall,hnd⟩,λq=>by have:=q.2.2.1;omega⟩
  | succ m ih=>
   intro k hm hle h1 h2;have hkn:k<p.kids.length:=by omega
   have hlt:ltI (k:Int) (nI n3)=true:=by simp;omega
   by_cases c1:p.kids[k]<1
   .refine⟨1,?_⟩;rw[aI_.l11_eq,az_ hlt,af_,hi.rd k rfl hkn,az_ (by simpa using c1)];exact hQ' false ⟨λq=>(by cases q),λq=>by have:=q.2.2.2.1 _ (kE hkn);omega⟩
   by_cases c2:48<=p.kids[k]
   .refine⟨1,?_⟩;rw[aI_.l11_eq,az_ hlt,af_,hi.rd k rfl hkn,aA_ (by simpa using c1),af_,hi.rd k rfl hkn,az_ (by simpa using c2)];exact hQ' false ⟨λq=>(by cases q),λq=>by have:=q.2.2.2.1 _ (kE hkn);omega⟩
   have loop:∀m' j:Nat,k-j=m'->j<=k->(∀i,(hi:i<j)->(hi2:i<k)->p.kids[i]'o_≠p.kids[k])->∃f,aI_.l16 f u l a1 n1 a2 n2 a3 n3 (k:Int) (j:Int) H Q:=by
    intro m';induction m' with
    | zero=>
     intro j hj hjk h3;obtain⟨f,hf⟩:=ih (k+1) o_ o_
      (λi hi hik=>by
       by_cases e:i=k
       .subst e;omega
       .exact h1 i hi o_)
      (λi j' hj' hij hjk'=>by
       by_cases e:j'=k
       .subst e;exact h3 i o_ hij
       .exact h2 i j' hj' hij o_)
     refine⟨f+1,?_⟩;rw[aI_.l16_eq,aA_ s_,an_ o_];exact hf
    | succ m' ih'=>
     intro j hj hjk h3;have hjn:j<p.kids.length:=by omega
     by_cases e:p.kids[j]=p.kids[k]
     .refine⟨1,?_⟩;rw[aI_.l16_eq,az_ s_,af_,hi.rd j rfl hjn,af_,hi.rd k rfl hkn,az_ (by simpa using e)];refine hQ' false ⟨λq=>(by cases q),λq=>?_⟩;exact ((kS.1 q.2.2.2.2) j k hjn hkn o_ e).elim
     ·obtain⟨f,hf⟩:=ih' (j+1) o_ o_ (λi hi hi2=>by
       by_cases e':i=j
       .subst e';exact e
       .exact h3 i o_ hi2)
      refine⟨f+1,?_⟩;rw[aI_.l16_eq,az_ s_,af_,hi.rd j rfl hjn,af_,hi.rd k rfl hkn,aA_ (by simpa using e),an_ o_];exact hf
   obtain⟨f,hf⟩:=loop _ 0 rfl (kP _) (λi hi=>by omega);refine⟨f+1,?_⟩;rw[aI_.l11_eq,az_ hlt,af_,hi.rd k rfl hkn,aA_ (by simpa using c1),af_,hi.rd k rfl hkn,aA_ (by simpa using c2)];exact hf
 by_cases cu:u=true
 rotate_left
 .refine⟨1,?_⟩;rw[fy_,az_ (by cases u<;>simp_all)];exact hQ _ ⟨λq=>(by cases q),λq=>by have:=q.2.used;rw[hu]at this;exact (cu this).elim⟩
 by_cases cr:id_ p.keys/\∀k∈p.keys,1<=k.size/\k.size<=6
 rotate_left
 .refine⟨1,?_⟩;rw[fy_,aA_ (by rw[cu];rfl)];refine gY_ hk λb hb=>?_;simp only[aN_,ao_];rw[az_ (by cases b with|false=>rfl|true=>exact (cr (hb.1 rfl)).elim)];exact hQ _ ⟨λq=>(by cases q),λq=>(cr ⟨q.2.rising,q.2.keys⟩).elim⟩
 by_cases cm:n1<=most
 rotate_left
 .refine⟨1,?_⟩;rw[fy_,aA_ (by rw[cu];rfl)];refine gY_ hk λb hb=>?_;simp only[aN_,ao_];rw[aA_ (by rw[hb.2 cr];rfl),az_ s_];exact hQ _ ⟨λq=>(by cases q),λq=>by have:=q.1;omega⟩
 cases hL:p.leaf with
 |true=>
  obtain⟨f,hf⟩:=leafs hL (λb hb=>hQ b (hb.trans ⟨λq=>⟨o_,by rw[hu];exact cu,cr.1,cr.2,λ_=>q,λe=>(by rw[hL]at e;cases e)⟩,λq=>q.2.leaf hL⟩)) _ 0 rfl (kP _) (λi hi h=>by omega);refine⟨f+1,?_⟩;rw[fy_,aA_ (by rw[cu];rfl)];refine gY_ hk λb hb=>?_;simp only[aN_,ao_];rw[aA_ (by rw[hb.2 cr];rfl),aA_ s_,az_ (by rw[<-hl];exact hL)];exact hf
 |false=>
  obtain⟨f,hf⟩:=inners hL (λb hb=>hQ b (hb.trans ⟨λq=>⟨o_,by rw[hu];exact cu,cr.1,cr.2,λe=>(by rw[hL]at e;cases e),λ_=>q⟩,λq=>q.2.inner hL⟩)) _ 0 rfl (kP _) (λi hi h=>by omega) (λi j hj hij h=>by omega);refine⟨f+1,?_⟩;rw[fy_,aA_ (by rw[cu];rfl)];refine gY_ hk λb hb=>?_;simp only[aN_,ao_];rw[aA_ (by rw[hb.2 cr];rfl),aA_ s_,aA_ (by rw[<-hl];exact hL)];exact hf
theorem rr_(h:jn_ H u l a1 n1 a2 n2 a3 n3 p)(A:∀b,(b=true↔fg_ p)->Q (gB b) H):
 gS_ [.agg [.bool u,.bool l,.sl a1 n1 1,.sl a2 n2 1,.sl a3 n3 1]] H Q:=⟨1,pZ_ (most:=4) o_ h λb C=>A b C⟩
end
theorem le_{α:Type}{l:List α}{x:α}(h:l[i]?=some x):l.set i x=l:=by
 apply ext_getElem?;grind
def Dj(a b:Pl):Prop:=∀l,a=some (l,0)->b≠some (l,0)
theorem Dj.symm(h:Dj a b):Dj b a:=λl r A=>h l A r
theorem Own.lt'(h:Own H b t a n cs)(e:a=some (l,0)):l<H.length:=by subst e;exact h.lt
theorem Own.after(h:Own H b t a n cs)(A:Dj a0 a)(r:Ex H0 a0 H H'):Own H' b t a n cs:=
 h.keep λl e=>r.row l (h.lt' e) λC=>A l C e
theorem Dj.fresh{a r:Pl}(h:Own H b t a n cs)(D:∀l o,r=some (l,o)->H.length<=l):Dj r a:=λl C A=>by
 have:=D l 0 C;have:=h.lt' A;omega
theorem Own.set(h:Own H b t a n cs)(r:a≠some (l,0))(x:Obj):Own (H.set l x) b t a n cs:=
 h.keep λA e=>by grind
structure ey_(H:Hp)(b:Nat)(u l:Bool)(a1:Pl)(n1:Nat)(a2:Pl)(n2:Nat)(a3:Pl)(n3:Nat)(p:Pg):Prop where
 used:p.used=u
 leaf:p.leaf=l
 keys:Own H b tS a1 n1 (p.keys.map GV.str)
 vals:Own H b tS a2 n2 (p.vals.map GV.str)
 kids:Own H b tI a3 n3 (p.kids.map (GV.int .i64))
 d12:Dj a1 a2
 d13:Dj a1 a3
 d23:Dj a2 a3
 small:n1<=1000/\n2<=1000/\n3<=1000
theorem ey_.at(h:ey_ H b u l a1 n1 a2 n2 a3 n3 p):jn_ H u l a1 n1 a2 n2 a3 n3 p:=by
 have⟨D,F,A,C,r,_,_,_,s⟩:=h;refine⟨D,F,⟨A.cells,?_,o_⟩,⟨C.cells,?_,o_⟩,⟨r.cells,?_,o_⟩⟩
 .have:=A.len;simpa using this.symm
 .have:=C.len;simpa using this.symm
 .have:=r.len;simpa using this.symm
theorem Own.mono{H H':Hp}(r:H<+:H')(h:Own H b t a n cs):Own H' b t a n cs:=h.keep λl e=>a8_ r (h.lt' e)
theorem ey_.mono{H H':Hp}(r:H<+:H')(h:ey_ H b u l a1 n1 a2 n2 a3 n3 p):ey_ H' b u l a1 n1 a2 n2 a3 n3 p:=
 ⟨h.used,h.leaf,h.keys.mono r,h.vals.mono r,h.kids.mono r,h.d12,h.d13,h.d23,h.small⟩
def noPg:Pg:=⟨false,false,[],[],[]⟩
theorem GL_(H:Hp)(b:Nat):ey_ H b false false none 0 none 0 none 0 noPg:=
 ⟨rfl,rfl,.inl ⟨rfl,rfl,rfl⟩,.inl ⟨rfl,rfl,rfl⟩,.inl ⟨rfl,rfl,rfl⟩,λ_ e=>t_,λ_ e=>t_,λ_ e=>t_,o_⟩
theorem Ep_(H:Hp):jn_ H false false none 0 none 0 none 0 noPg:=(GL_ H 0).at
theorem c0_(h:Q (gI n) H):dp_ [gI n] H Q:=⟨1,h⟩
theorem vO_{α:Type}{xs ys:List α}(h:xs.length=ys.length)(C:∀i,(r:i<xs.length)->(A:i<ys.length)->xs[i]=ys[i]):xs=ys:=ext_getElem h λi r A=>C i r A
section
variable{H:Hp}{Q:Post}{a1 a2:Pl}{n1 n2:Nat}
theorem je_ {xs ys:List Y_} (h1:Ss H a1 n1 xs) (h2:Ss H a2 n2 ys) (hQ:∀b,(b=true↔xs=ys)->Q (gB b) H):bL_ [nL a1 n1 1,nL a2 n2 1] H Q:=by
 have e1:=h1.len;have e2:=h2.len;have l1:=h1.lim;by_cases hl:xs.length=ys.length
 ·have loop:∀f k:Nat,xs.length-k<f->k<=xs.length->(∀i,(h1:i<xs.length)->(h2:i<ys.length)->i<k->xs[i]=ys[i])->bL_.l4 f a1 n1 a2 n2 (k:Int) H Q:=by
   intro f;induction f with
   |zero=>intro k hf;omega
   | succ f ih=>
    intro k hf hk he;rw[bL_.l4_eq];by_cases hkn:k<xs.length
    ·rw[az_ s_,af_,h1.rd k rfl hkn,af_];have hc:(ltI (k:Int) (nI n1))=(ltI (k:Int) (nI n2)):=by rw[e1,e2,hl]
     rw[h2.rd k rfl o_];by_cases hs:xs[k]=ys[k]
     ·rw[aA_ (by simpa using hs),an_ o_];exact ih (k+1) o_ o_ λi q1 q2 hik=>by
       by_cases e:i=k
       .subst e;exact hs
       .exact he i q1 q2 o_
     .rw[az_ (by simpa using hs)];exact hQ _ ⟨λq=>(by cases q),λq=>(hs (by simp[q])).elim⟩
    .rw[aA_ s_];exact hQ _ ⟨λ_=>vO_ hl λi q1 q2=>he i q1 q2 o_,λ_=>rfl⟩
  refine⟨xs.length+2,?_⟩;rw[kB_,aA_ s_];exact loop _ 0 o_ (kP _) (λi _ _ h=>by omega)
 .refine⟨1,?_⟩;rw[kB_,az_ s_];exact hQ _ ⟨λq=>(by cases q),λq=>(hl (by rw[q])).elim⟩
theorem ql_ {xs ys:List Int} (h1:Is H a1 n1 xs) (h2:Is H a2 n2 ys) (hQ:∀b,(b=true↔xs=ys)->Q (gB b) H):ce_ [nL a1 n1 1,nL a2 n2 1] H Q:=by
 have e1:=h1.len;have e2:=h2.len;have l1:=h1.lim;by_cases hl:xs.length=ys.length
 ·have loop:∀f k:Nat,xs.length-k<f->k<=xs.length->(∀i,(h1:i<xs.length)->(h2:i<ys.length)->i<k->xs[i]=ys[i])->ce_.l4 f a1 n1 a2 n2 (k:Int) H Q:=by
   intro f;induction f with
   |zero=>intro k hf;omega
   | succ f ih=>
    intro k hf hk he;rw[ce_.l4_eq];by_cases hkn:k<xs.length
    ·rw[az_ s_,af_,h1.rd k rfl hkn,af_];rw[h2.rd k rfl o_];by_cases hs:xs[k]=ys[k]
     ·rw[aA_ (by simpa using hs),an_ o_];exact ih (k+1) o_ o_ λi q1 q2 hik=>by
       by_cases e:i=k
       .subst e;exact hs
       .exact he i q1 q2 o_
     .rw[az_ (by simpa using hs)];exact hQ _ ⟨λq=>(by cases q),λq=>(hs (by simp[q])).elim⟩
    .rw[aA_ s_];exact hQ _ ⟨λ_=>vO_ hl λi q1 q2=>he i q1 q2 o_,λ_=>rfl⟩
  refine⟨xs.length+2,?_⟩;rw[lm_,aA_ s_];exact loop _ 0 o_ (kP _) (λi _ _ h=>by omega)
 .refine⟨1,?_⟩;rw[lm_,az_ s_];exact hQ _ ⟨λq=>(by cases q),λq=>(hl (by rw[q])).elim⟩
end
section
variable{H:Hp}{Q:Post}{u l:Bool}{a1:Pl}{n1:Nat}{a2:Pl}{n2:Nat}{a3:Pl}{n3:Nat}{p:Pg}{u' l':Bool}{a1':Pl}{n1':Nat}{a2':Pl}{n2':Nat}{a3':Pl}{n3':Nat}{q:Pg}
theorem qs_(r:jn_ H u l a1 n1 a2 n2 a3 n3 p)(A:jn_ H u' l' a1' n1' a2' n2' a3' n3' q)(C:∀b,(b=true↔p=q)->Q (gB b) H):
 fm_ [.agg [.bool u,.bool l,.sl a1 n1 1,.sl a2 n2 1,.sl a3 n3 1],.agg [.bool u',.bool l',.sl a1' n1' 1,.sl a2' n2' 1,.sl a3' n3' 1]] H Q:=by
 refine⟨1,?_⟩;rw[r9_];refine aa_ (λG=>?_) λG=>C _ ⟨λq=>g_,λe=>?_⟩
 rotate_left
 .rw[<-r.used,<-A.used,e]at G;simp at G
 refine aa_ (λD=>?_) λD=>C _ ⟨λq=>g_,λe=>?_⟩
 rotate_left
 .rw[<-r.leaf,<-A.leaf,e]at D;simp at D
 refine je_ r.keys A.keys λW I=>aa_ (λO=>?_) λO=>C _ ⟨λq=>g_,λe=>?_⟩
 rotate_left
 .grind
 refine je_ r.vals A.vals λY N=>aa_ (λJ=>?_) λJ=>C _ ⟨λq=>g_,λe=>?_⟩
 rotate_left
 .grind
 refine ql_ r.kids A.kids λb5 F=>C _ (F.trans ⟨λe=>?_,λe=>by rw[e]⟩);have q3:=r.used;have Z:=r.leaf;have V:=A.used;have U:=A.leaf;cases p;cases q;simp_all
end
theorem Own.wr{H0 H:Hp}(F:H0<+:H)(h:Own H H0.length t a n cs)(k:Nat){i:Int}(hi:i=k)(O:k<n)
 (I:∀H',Own H' H0.length t a n (cs.set k v)->Ex H0 a H H'->K H'):chk (leI 0 i&&ltI i (nI n)) (pS a λC D=>Am.wr H C (D+tN i*1) v K):=by
 subst hi;refine ab_ (by simp_all) ?_;rcases h with⟨_,rfl,_⟩|⟨l,rfl,A,r,N⟩
 .omega
 .simp[ad_];rw[rX_ r o_];refine I _ (.inr ⟨l,rfl,A,kH (kC.1 r).1,g_⟩) ⟨dI_ F A _,t_,λJ _ G=>?_⟩;grind
theorem Ex.trans(h:Ex H0 a H H1)(A:Ex H0 a H1 H2):Ex H0 a H H2:=
 ⟨A.pre,Nat.le_trans h.len A.len,λl C r=>(A.row l (Nat.lt_of_lt_of_le C h.len) r).trans (h.row l C r)⟩
theorem Ex.refl{H0 H:Hp}(h:H0<+:H):Ex H0 a H H:=⟨h,kO _,λ_ _ _=>rfl⟩
section
variable{H0 H:Hp}{u l:Bool}{a1:Pl}{n1:Nat}{a2:Pl}{n2:Nat}{a3:Pl}{n3:Nat}{p:Pg}
theorem ey_.setKey(h:ey_ H H0.length u l a1 n1 a2 n2 a3 n3 p)(D:H0<+:H)(k:Nat){i:Int}(hi:i=k)(r:k<n1)(s:Y_)
 (F:∀H',H0<+:H'->ey_ H' H0.length u l a1 n1 a2 n2 a3 n3 { p with keys:=p.keys.set k s }->K H'):chk (leI 0 i&&ltI i (nI n1)) (pS a1 λA C=>Am.wr H A (C+tN i*1) (.str s) K):=
 h.keys.wr D k hi r λH' o x=>F H' x.pre ⟨h.used,h.leaf,by simp_all,h.vals.after h.d12 x,h.kids.after h.d13 x,h.d12,h.d13,h.d23,h.small⟩
theorem ey_.setVal(h:ey_ H H0.length u l a1 n1 a2 n2 a3 n3 p)(D:H0<+:H)(k:Nat){i:Int}(hi:i=k)(r:k<n2)(s:Y_)
 (F:∀H',H0<+:H'->ey_ H' H0.length u l a1 n1 a2 n2 a3 n3 { p with vals:=p.vals.set k s }->K H'):chk (leI 0 i&&ltI i (nI n2)) (pS a2 λA C=>Am.wr H A (C+tN i*1) (.str s) K):=
 h.vals.wr D k hi r λH' o x=>F H' x.pre ⟨h.used,h.leaf,h.keys.after h.d12.symm x,by simp_all,h.kids.after h.d23 x,h.d12,h.d13,h.d23,h.small⟩
theorem ey_.addKeys(h:ey_ H H0.length u l a1 n1 a2 n2 a3 n3 p)(C:H0<+:H)(xs:List Y_)(D:cs=xs.map GV.str)(A:m=xs.length)(G:n1+m<=1000)
 (F:∀r H',H0<+:H'->ey_ H' H0.length u l r (n1+m) a2 n2 a3 n3 { p with keys:=p.keys++xs }->K r (n1+m) H'):ap H tS 1 16 a1 n1 cs m K:=by
 subst D;subst A;refine kZ_ C h.keys t_ (by unfold Lim;omega) λr H' o x f=>F r H' x.pre ?_;have:=h.small;exact⟨h.used,h.leaf,g_,h.vals.after h.d12 x,h.kids.after h.d13 x,Dj.fresh h.vals f,Dj.fresh h.kids f,h.d23,o_⟩
theorem ey_.addVals(h:ey_ H H0.length u l a1 n1 a2 n2 a3 n3 p)(C:H0<+:H)(xs:List Y_)(D:cs=xs.map GV.str)(A:m=xs.length)(G:n2+m<=1000)
 (F:∀r H',H0<+:H'->ey_ H' H0.length u l a1 n1 r (n2+m) a3 n3 { p with vals:=p.vals++xs }->K r (n2+m) H'):ap H tS 1 16 a2 n2 cs m K:=by
 subst D;subst A;refine kZ_ C h.vals t_ (by unfold Lim;omega) λr H' o x f=>F r H' x.pre ?_;have:=h.small;exact⟨h.used,h.leaf,h.keys.after h.d12.symm x,g_,h.kids.after h.d23 x,(Dj.fresh h.keys f).symm,h.d13,Dj.fresh h.kids f,o_⟩
theorem ey_.addKids(h:ey_ H H0.length u l a1 n1 a2 n2 a3 n3 p)(C:H0<+:H)(xs:List Int)(D:cs=xs.map (GV.int .i64))(A:m=xs.length)(G:n3+m<=1000)
 (F:∀r H',H0<+:H'->ey_ H' H0.length u l a1 n1 a2 n2 r (n3+m) { p with kids:=p.kids++xs }->K r (n3+m) H'):ap H tI 1 8 a3 n3 cs m K:=by
 subst D;subst A;refine kZ_ C h.kids t_ (by unfold Lim;omega) λr H' o x f=>F r H' x.pre ?_;have:=h.small;exact⟨h.used,h.leaf,h.keys.after h.d13.symm x,h.vals.after h.d23.symm x,g_,h.d12,(Dj.fresh h.keys f).symm,(Dj.fresh h.vals f).symm,o_⟩
end
def kR_(H:Hp)(lo hi:Nat)(t:TypeId)(a:Pl)(n:Nat)(cs:List GV):Prop:=
 (a=none/\n=0/\cs=[])\/∃l o ds,a=some (l,o)/\lo<=l/\l<hi/\H[l]?=some (.row true t ds)/\o+n<=ds.length/\(ds.drop o).take n=cs
def Dr(a b:Pl):Prop:=∀l o o',a=some (l,o)->b≠some (l,o')
structure Ch(lo hi:Nat)(H H':Hp):Prop where
 len:H.length<=H'.length
 row:∀l,l<H.length-> ¬ (lo<=l/\l<hi)->H'[l]?=H[l]?
theorem Ch.trans(h:Ch lo hi H H1)(C:Ch lo hi H1 H2):Ch lo hi H H2:=
 ⟨Nat.le_trans h.len C.len,λl r A=>(C.row l (Nat.lt_of_lt_of_le r h.len) A).trans (h.row l r A)⟩
theorem Ch.refl(lo hi:Nat)(H:Hp):Ch lo hi H H:=⟨kO _,λ_ _ _=>rfl⟩
theorem Ch.of_pre{H H':Hp}(h:H<+:H'):Ch lo hi H H':=⟨h.length_le,λl r _=>a8_ h r⟩
theorem Ch.pre{H0 H H':Hp}(h:Ch lo hi H H')(r:H0<+:H)(A:H0.length<=lo):H0<+:H':=by
 rw[prefix_iff_eq_take];apply ext_getElem?;intro i;rw[getElem?_take];split
 .rename_i hi;rw[h.row i (Nat.lt_of_lt_of_le hi r.length_le) o_,a8_ r hi]
 .grind
section
variable{H H':Hp}{lo hi:Nat}{t:TypeId}{a:Pl}{n:Nat}{cs:List GV}
theorem kR_.keep(h:kR_ H lo hi t a n cs)(G:∀l o,a=some (l,o)->H'[l]?=H[l]?):kR_ H' lo hi t a n cs:=by
 rcases h with h|⟨l,o,C,rfl,A,F,I,D,r⟩
 .exact .inl h
 .exact .inr ⟨l,o,C,rfl,A,F,g_,D,r⟩
theorem kR_.lt(h:kR_ H lo hi t a n cs)(e:a=some (l,o)):l<H.length/\lo<=l/\l<hi:=by
 rcases h with⟨h,_⟩|⟨r,G,D,C,A,I,F,_⟩
 .grind
 .grind
theorem kR_.mono(h:kR_ H lo hi t a n cs)(r:H<+:H'):kR_ H' lo hi t a n cs:=h.keep λl o e=>a8_ r (h.lt e).1
theorem kR_.cells(h:kR_ H lo hi t a n cs):cells? H a n=some cs:=by
 rcases h with⟨rfl,rfl,rfl⟩|⟨l,o,F,rfl,D,G,C,A,r⟩
 .rfl
 .simp only[cells?,C];rw[if_pos A,r]
theorem kR_.len(h:kR_ H lo hi t a n cs):cs.length=n:=EI_ h.cells
theorem kR_.part(h:kR_ H lo hi t a n cs)(k m:Nat)(G:k+m<=n):kR_ H lo hi t (shf a k) m ((cs.drop k).take m):=by
 rcases h with⟨rfl,rfl,rfl⟩|⟨l,o,D,rfl,C,F,A,I,r⟩
 .exact .inl ⟨rfl,o_,t_⟩
 .refine .inr ⟨l,o+k,D,rfl,C,F,A,o_,?_⟩;rw[<-r,drop_take,take_take,drop_drop,Nat.min_eq_left o_]
theorem Dr.shf (h:Dr a b) (k m:Nat):Dr (shf a k) (shf b m):=by
 intro l o G r A;cases a with
 |none=>cases r
 | some p=>
  cases b with
  |none=>cases A
  |some q=>
   have⟨I,C⟩:=p;have⟨F,D⟩:=q;simp at r A;exact h l C D g_ g_
theorem kR_.wr (h:kR_ H lo hi t a n cs) (k:Nat) {i:Int} (A:i=k) (Y:k<n)
 (N:∀H',kR_ H' lo hi t a n (cs.set k v)->Ch lo hi H H'->(∀l,l<H.length->(∀o,a≠some (l,o))->H'[l]?=H[l]?)->K H'):chk (leI 0 i&&ltI i (nI n)) (pS a λO F=>Am.wr H O (F+tN i*1) v K):=by
 subst A;refine ab_ (by simp_all) ?_;rcases h with⟨_,rfl,_⟩|⟨l,o,V,rfl,D,G,C,W,U⟩
 .omega
 .simp[ad_];rw[rX_ C o_];have J:=(kC.1 C).1;refine N _ (.inr ⟨l,o,_,rfl,D,G,kH J,g_,?_⟩) ⟨t_,λI _ r=>?_⟩ (λI _ r=>?_)
  .rw[<-U,drop_set,if_neg o_,take_set,show o+k-o=k by omega]
  .grind
  .grind
end
structure PgM(H:Hp)(lo hi:Nat)(u l:Bool)(a1:Pl)(n1:Nat)(a2:Pl)(n2:Nat)(a3:Pl)(n3:Nat)(p:Pg):Prop where
 used:p.used=u
 leaf:p.leaf=l
 keys:kR_ H lo hi tS a1 n1 (p.keys.map GV.str)
 vals:kR_ H lo hi tS a2 n2 (p.vals.map GV.str)
 kids:kR_ H lo hi tI a3 n3 (p.kids.map (GV.int .i64))
 d12:Dr a1 a2
 d13:Dr a1 a3
 d23:Dr a2 a3
 small:n1<=1000/\n2<=1000/\n3<=1000
section
variable{H H':Hp}{lo hi:Nat}{u l:Bool}{a1:Pl}{n1:Nat}{a2:Pl}{n2:Nat}{a3:Pl}{n3:Nat}{p:Pg}
theorem PgM.at(h:PgM H lo hi u l a1 n1 a2 n2 a3 n3 p):jn_ H u l a1 n1 a2 n2 a3 n3 p:=by
 have⟨D,F,C,A,r,_,_,_,s⟩:=h;refine⟨D,F,⟨C.cells,?_,o_⟩,⟨A.cells,?_,o_⟩,⟨r.cells,?_,o_⟩⟩
 .have:=C.len;simpa using this.symm
 .have:=A.len;simpa using this.symm
 .have:=r.len;simpa using this.symm
theorem PgM.mono(h:PgM H lo hi u l a1 n1 a2 n2 a3 n3 p)(r:H<+:H'):PgM H' lo hi u l a1 n1 a2 n2 a3 n3 p:=
 ⟨h.used,h.leaf,h.keys.mono r,h.vals.mono r,h.kids.mono r,h.d12,h.d13,h.d23,h.small⟩
theorem Own.dr (h:Own H b t a n cs) (D:Own H b t' a' n' cs') (C:Dj a a'):Dr a a':=by
 intro l o G e A;rcases h with⟨q,_⟩|⟨m,q,_⟩
 .grind
 .rcases D with⟨r,_⟩|⟨F,r,_⟩
  .grind
  .rw[q]at e;rw[r]at A;cases e;cases A;exact C l q r
end
end Go.Am
namespace Go.Am
structure PC where
 u:Bool
 l:Bool
 a1:Pl
 n1:Nat
 a2:Pl
 n2:Nat
 a3:Pl
 n3:Nat
def PC.cells(c:PC):List GV:=[.bool c.u,.bool c.l,.sl c.a1 c.n1 1,.sl c.a2 c.n2 1,.sl c.a3 c.n3 1]
@[simp] theorem PC.cells_length (c:PC):c.cells.length=5:=rfl
def PC.at(H:Hp)(c:PC)(p:Pg):Prop:=jn_ H c.u c.l c.a1 c.n1 c.a2 c.n2 c.a3 c.n3 p
theorem PC.at.mono{H H':Hp}(r:H<+:H'){c:PC}(h:c.at H p):c.at H' p:=jn_.mono r h
def aW_(cs:List PC):List GV:=cs.flatMap PC.cells
theorem cr_(cs:List PC):(aW_ cs).length=cs.length*5:=by
 unfold aW_;induction cs with
 |nil=>rfl
 |cons c cs h=>simp[h];omega
theorem pD_(cs h:List PC):aW_ (cs++h)=aW_ cs++aW_ h:=by simp[aW_]
theorem j4_ (hi:i<cs.length) (r:j<5):(aW_ cs)[i*5+j]?=(cs[i].cells)[j]? :=by
 unfold aW_;induction cs generalizing i with
 |nil=>simp at hi
 | cons c cs h=>
  simp;cases i with
  |zero=>rw[kM (by simp_all)];simp
  |succ i=>
   rw[List.getElem?_append_right s_];have e:(i+1)*5+j-c.cells.length=i*5+j:=by simp;omega
   grind
structure Tr(H:Hp)(a:Pl)(n:Nat)(cs:List PC)(T:List Pg):Prop where
 cells:cells? H a (n*5)=some (aW_ cs)
 len:cs.length=n
 lenT:T.length=n
 all:∀i (h:i<cs.length) (h':i<T.length),(cs[i]).at H T[i]
theorem Tr.mono{H H':Hp}(r:H<+:H')(h:Tr H a n cs T):Tr H' a n cs T:=⟨l2_ r h.cells,h.len,h.lenT,λi C A=>(h.all i C A).mono r⟩
theorem Tr.get (h:Tr H a n cs T) (hi:i<n):∃l o c p,a=some (l,o)/\cs[i]?=some c/\T[i]?=some p/\c.at H p/\
 gt H l (o+i*5)=some (.bool c.u)/\gt H l (o+i*5+1)=some (.bool c.l)/\gt H l (o+i*5+2)=some (.sl c.a1 c.n1 1)/\gt H l (o+i*5+3)=some (.sl c.a2 c.n2 1)/\gt H l (o+i*5+4)=some (.sl c.a3 c.n3 1):=by
 have F:=h.len;have D:=h.lenT;have A:=h.cells;cases a with
 |none=>simp[cells?]at A;omega
 | some q=>
  have⟨l,o⟩:=q;have r:∀j,j<5->gt H l (o+i*5+j)=((cs[i]'o_).cells)[j]? :=by
   intro j C;have:=jB_ A (j:=i*5+j) o_;rw[<-Nat.add_assoc]at this;rw[this,j4_ o_ C]
  exact⟨l,o,cs[i]'o_,T[i]'o_,rfl,t_,t_,h.all i o_ o_,r 0 o_,r 1 o_,r 2 o_,r 3 o_,r 4 o_⟩
theorem cw_{c:PC}{K:Bool->Bool->Pl->Nat->Pl->Nat->Pl->Nat->Prop}(Y:gt H l j=some (.bool c.u))(C:gt H l (j+1)=some (.bool c.l))(r:gt H l (j+2)=some (.sl c.a1 c.n1 1))(h3:gt H l (j+3)=some (.sl c.a2 c.n2 1))(J:gt H l (j+4)=some (.sl c.a3 c.n3 1)):
 (rd H l j λv0=>dB v0 λA=>rd H l (j+1) λF=>dB F λN=>rd H l (j+1+1) λI=>dL 1 I λZ n2=>rd H l (j+1+1+1) λW=>dL 1 W λD O=>rd H l (j+1+1+1+1) λV=>dL 1 V λU G=>K A N Z n2 D O U G)=K c.u c.l c.a1 c.n1 c.a2 c.n2 c.a3 c.n3:=by
 rw[ae_ Y,ao_,ae_ C,ao_,ae_ r,ah_,ae_ h3,ah_,ae_ J,ah_]
end Go.Am
namespace Go.Am
open List
open Go.RowKit Go.ChangeShapes Go.WideShapes Go.Proofs
theorem I9_(F:P.underlying t=some (.struct fs))(h:Value.okWide P W r b t v):∃A:Array Value,v= .agg A/\∀x∈A.toList,Zc W x:=by
 unfold Value.okWide at h;rw[F]at h;obtain⟨A,rfl,_,J,_,_,I⟩:=h;refine⟨A,rfl,λx D=>?_⟩;obtain⟨i,N,rfl⟩:=kK D;have⟨u,_,G⟩:=I i A[i] t_;exact GS_ G
section
variable{Hh:Type}{enc:TypeId × Value->Hh}{W:World}{held:Bool}
theorem HB_ {fuel:Nat} {cs:List Value} {x:DataW Hh × List MemPlace} (h:DataW.trod enc Tryz.prog W 0 (λ_=>true) held fuel 100 cs=some x) (hz:∀v∈cs,Zc W v) (hw:(DataW.weights Tryz.prog 100 x.1).all (· <=reachBytes)=true)
 {φ:List LI} {H:Hp} (hr:cS_ φ H W) (hn:iF_ H):
 ∃φ' H' u l a1 n1 a2 n2 a3 n3 p,φ<+:φ'/\H<+:H'/\cS_ φ' H' W/\iF_ H'/\Is2 φ' [.bool u,.bool l,.sl a1 n1 1,.sl a2 n2 1,.sl a3 n3 1] cs/\jn_ H' u l a1 n1 a2 n2 a3 n3 p:=by
 obtain⟨xs,n,rfl,rfl,hlen,hxs,hf⟩:=DataW.trod_struct Tryz.underlying100 h;have h5:Tryz.prog.cellsOf 100=5:=by kernel_rfl
 have cB:Tryz.prog.cellsOf 4=1:=by kernel_rfl
 have c22:Tryz.prog.cellsOf 46=1:=by kernel_rfl
 have c23:Tryz.prog.cellsOf 47=1:=by kernel_rfl
 rw[h5]at hlen
 match cs,hlen with
 | [v0,v1,v2,v3,v4],_=>
  have f0:DataW.trod enc Tryz.prog W 0 (λ_=>true) held n 4 (([v0,v1,v2,v3,v4].drop 0).take (Tryz.prog.cellsOf 4))=xs[0]? :=hf 0 _ rfl;have f1:DataW.trod enc Tryz.prog W 0 (λ_=>true) held n 4 (([v0,v1,v2,v3,v4].drop 1).take (Tryz.prog.cellsOf 4))=xs[1]? :=hf 1 _ rfl;have f2:DataW.trod enc Tryz.prog W 0 (λ_=>true) held n 46 (([v0,v1,v2,v3,v4].drop 2).take (Tryz.prog.cellsOf 46))=xs[2]? :=hf 2 _ rfl;have f3:DataW.trod enc Tryz.prog W 0 (λ_=>true) held n 46 (([v0,v1,v2,v3,v4].drop 3).take (Tryz.prog.cellsOf 46))=xs[3]? :=hf 3 _ rfl;have f4:DataW.trod enc Tryz.prog W 0 (λ_=>true) held n 47 (([v0,v1,v2,v3,v4].drop 4).take (Tryz.prog.cellsOf 47))=xs[4]? :=hf 4 _ rfl;simp only[cB,c22,c23,drop_zero,drop_succ_cons,take_succ_cons,take_zero]at f0 f1 f2 f3 f4
  match xs,hxs with
  | [x0,x1,x2,x3,x4],_=>
   simp only[getElem?_cons_zero,getElem?_cons_succ]at f0 f1 f2 f3 f4;simp only[map_cons,map_nil,DataW.weights,Tryz.underlying100]at hw;obtain⟨u,e0,_⟩:=DataW.trod_bool Tryz.underlying4 f0;obtain⟨l,e1,_⟩:=DataW.trod_bool Tryz.underlying4 f1;simp only[List.cons.injEq,and_true]at e0 e1;subst e0;subst e1;obtain⟨φ1,H1,a1,n1,ks,w2,e2,p1,q1,r1,o1,i1,s1⟩:=wr_ Tryz.underlying46 Tryz.underlying9 (by kernel_rfl) (by kernel_rfl) f2 (λv hv=>hz v (by simp at hv;simp[hv])) (no_ hw (j:=2) rfl rfl) hr hn;obtain⟨φ2,H2,a2,n2,vs,w3,e3,p2,q2,r2,o2,i2,s2⟩:=wr_ Tryz.underlying46 Tryz.underlying9 (by kernel_rfl) (by kernel_rfl) f3 (λv hv=>hz v (by simp at hv;simp[hv])) (no_ hw (j:=3) rfl rfl) r1 o1;obtain⟨φ3,H3,a3,n3,is,w4,e4,p3,q3,r3,o3,i3,s3⟩:=FF_ Tryz.underlying47 Tryz.underlying3 (by kernel_rfl) (by kernel_rfl) f4 (λv hv=>hz v (by simp at hv;simp[hv])) (no_ hw (j:=4) rfl rfl) r2 o2;simp only[List.cons.injEq,and_true]at e2 e3 e4;subst e2;subst e3;subst e4;exact⟨φ3,H3,u,l,a1,n1,a2,n2,a3,n3,⟨u,l,ks,vs,is⟩,p1.trans (p2.trans p3),q1.trans (q2.trans q3),r3,o3,
    .cons rfl (.cons rfl (.cons (GV.is.mono (p2.trans p3) i1) (.cons (GV.is.mono p3 i2) (.cons i3 .nil)))),⟨rfl,rfl,s1.mono (q2.trans q3),s2.mono q3,s3⟩⟩
theorem tV_:∀{D:List (DataW Hh)},(DataW.weightsAll P e D).all (· <=reachBytes)=true->∀{i:Nat}{d:DataW Hh},D[i]?=some d->(DataW.weights P e d).all (· <=reachBytes)=true
 |[],_,i,d,h=>by grind
 |d0::r,A,0,d,h=>by
  simp[DataW.weightsAll]at A;grind
 |d0::r,A,i+1,d,h=>by
  simp only[DataW.weightsAll,all_append,kR]at A;exact tV_ A.2 h
theorem Is2.get(h:Is2 φ cs vs){j:Nat}(r:cs[j]?=some v):∃x,vs[j]?=some x/\v.is φ x:=cs_.get h r
theorem CP_ {fuel:Nat} {cs:List Value} {x:DataW Hh × List MemPlace} (h:DataW.trod enc Tryz.prog W 0 (λ_=>true) held fuel 22 cs=some x) (hz:∀v∈cs,Zc W v) (hw:(DataW.weights Tryz.prog 22 x.1).all (· <=reachBytes)=true)
 {φ:List LI} {H:Hp} (hr:cS_ φ H W) (hn:iF_ H):
 ∃φ' H' a n ps T v,cs=[v]/\φ<+:φ'/\H<+:H'/\cS_ φ' H' W/\iF_ H'/\GV.is φ' (.sl a n 5) v/\Tr H' a n ps T/\n*80<=140737488351232:=by
 have h5:Tryz.prog.cellsOf 100=5:=by kernel_rfl
 rcases DataW.trod_slice Tryz.underlying22 h with⟨rfl,rfl⟩|⟨a,len,cap,elems,rest,n,rfl,rfl,rfl,_,hl,hcap,hel,hi,hrest,_⟩
 .exact⟨φ,H,none,0,[],[],_,rfl,k8 _,k8 _,hr,hn,⟨rfl,rfl⟩,⟨rfl,rfl,rfl,λi h1=>(by simp at h1)⟩,o_⟩
 rw[h5]at hi hrest;obtain⟨hrl,hrj⟩:=hrest rfl;simp only[DataW.weights,Tryz.underlying22]at hw;rw[all_cons,all_append,kR,kR]at hw;obtain⟨hw0,hw1,_⟩:=hw;have hpos:0<W.heap.size:=hz (.slice (some a) len cap) (mem_singleton.2 rfl) _ _ _ rfl;have hsp:0<cap->a.spot=none/\a.block<W.heap.size:=by
  intro h0;have hb:∃cs0,W.cells? 0 (a.add 0) 5=some cs0:=by
   rcases Nat.eq_zero_or_pos len with e|e
   .have:=hrj 0 o_;rw[e]at this;simp only[kN,Nat.zero_mul]at this;rw[kG o_]at this;cases hc:W.cells? 0 (a.add 0) 5 with
    |none=>rw[hc]at this;cases this
    |some c=>exact⟨c,rfl⟩
   .have:=hi 0 e;simp only[Nat.zero_mul]at this;rw[kG o_]at this;cases hc:W.cells? 0 (a.add 0) 5 with
    |none=>rw[hc]at this;cases this
    |some c=>exact⟨c,rfl⟩
  obtain⟨c0,hc0⟩:=hb;obtain⟨_,hlen,hget⟩:=World.cells?_some hc0;have:=hget 0 o_;rw[kG o_]at this;have:=Al_ this;simpa[Addr.add] using this
 have key:∀k,k<=len->∃(φ':List LI)(H':Hp)(ps:List PC)(T:List Pg),φ<+:φ'/\H<+:H'/\cS_ φ' H' W/\iF_ H'/\ps.length=k/\T.length=k/\(∀i (h:i<ps.length) (h':i<T.length),(ps[i]).at H' T[i])/\
  ∀j v,(aW_ ps)[j]?=some v->∃x,W.cell? (a.add j)=some x/\v.is φ' x:=by
  intro k;induction k with
  |zero=>intro _;exact⟨φ,H,[],[],k8 _,k8 _,hr,hn,rfl,rfl,λi h1=>(by simp at h1),λj v hj=>(by simp[aW_]at hj)⟩
  | succ k ih=>
   intro hk;obtain⟨φ1,H1,ps,T,e1,g1,r1,n1,l1,l2,at1,c1⟩:=ih o_;have hik:=hi k o_;have hel':k<elems.length:=by omega
   rw[kG hel']at hik;cases hc:W.cells? 0 (a.add (k*5)) 5 with
   |none=>rw[hc]at hik;cases hik
   | some ck=>
    rw[hc]at hik;obtain⟨_,hlen,hget⟩:=World.cells?_some hc;obtain⟨φ2,H2,u,l,a1,n1',a2,n2,a3,n3,p,e2,g2,r2,n2',is2,at2⟩:=HB_ (x:=elems[k]) hik (λv hv=>by intro _ _ _ _;exact hpos) (tV_ hw1 (i:=k) (by rw[getElem?_map,kG hel'];rfl)) r1 n1;obtain⟨hs,hb⟩:=hsp o_;refine⟨φ2,H2,ps++[⟨u,l,a1,n1',a2,n2,a3,n3⟩],T++[p],e1.trans e2,g1.trans g2,r2,n2',by simp[l1],by simp[l2],?_,?_⟩
    .intro i h1 h2;rw[getElem_append,getElem_append];by_cases e:i<k
     .rw[dif_pos o_,dif_pos o_];exact (at1 i o_ o_).mono g2
     .rw[dif_neg o_,dif_neg o_];simpa[PC.at] using at2
    ·intro j v hj;rw[pD_]at hj;rcases Nat.lt_or_ge j (k*5) with q|q
     .rw[kM (by rw[cr_];omega)]at hj;obtain⟨x,x1,x2⟩:=c1 j v hj;exact⟨x,x1,GV.is.mono e2 x2⟩
     .rw[getElem?_append_right (by rw[cr_];omega),cr_,l1]at hj;have hj5:j-k*5<5:=by have:=(kC.1 hj).1;simpa[aW_] using this
      obtain⟨x,hx,hvx⟩:=Is2.get is2 (j:=j-k*5) (v:=v) (by simpa[aW_,PC.cells] using hj);refine⟨x,?_,hvx⟩;have:=hget (j-k*5) hj5;rw[hx]at this;rw[<-this,oa_ hs,oa_ hs];rw[oa_ rfl];congr 2;show a.off+j=a.off+k*5+(j-k*5);omega
 obtain⟨φ1,H1,ps,T,e1,g1,r1,n1,l1,l2,at1,c1⟩:=key len (kO _);obtain⟨φ2,H2,p,e2,g2,r2,n2,i2,s2⟩:=vQ_ (z:=5) r1 n1 hl hpos hsp (aW_ ps) (by rw[cr_,l1]) c1;refine⟨φ2,H2,p,len,ps,T,_,rfl,e1.trans e2,g1.trans g2,r2,n2,i2,⟨s2,l1,l2,λi h1 h2=>(at1 i h1 h2).mono g2⟩,?_⟩;have hb:Tryz.prog.bytesOf 100=80:=by kernel_rfl
 simp only[decide_eq_true_eq,k9,hb,hel]at hw0;unfold reachBytes at hw0;omega
theorem FG_ {fuel:Nat} {cs:List Value} {x:DataW Hh × List MemPlace} (h:DataW.trod enc Tryz.prog W 0 (λ_=>true) held fuel 24 cs=some x) (hz:∀v∈cs,Zc W v) (hw:(DataW.weights Tryz.prog 24 x.1).all (· <=reachBytes)=true)
 {φ:List LI} {H:Hp} (hr:cS_ φ H W) (hn:iF_ H):
 ∃φ' H' a n ps T,φ<+:φ'/\H<+:H'/\cS_ φ' H' W/\iF_ H'/\Is2 φ' [.sl a n 5] cs/\Tr H' a n ps T/\n*80<=140737488351232:=by
 obtain⟨xs,n,rfl,rfl,hlen,hxs,hf⟩:=DataW.trod_struct Tryz.underlying24 h;have h1:Tryz.prog.cellsOf 24=1:=by kernel_rfl
 have c1:Tryz.prog.cellsOf 22=1:=by kernel_rfl
 rw[h1]at hlen
 match cs,hlen with
 | [v0],_=>
  have f0:DataW.trod enc Tryz.prog W 0 (λ_=>true) held n 22 (([v0].drop 0).take (Tryz.prog.cellsOf 22))=xs[0]? :=hf 0 _ rfl;simp only[c1,drop_zero,take_succ_cons,take_zero]at f0
  match xs,hxs with
  |[x0],_=>
   simp only[getElem?_cons_zero]at f0;simp only[map_cons,map_nil,DataW.weights,Tryz.underlying24]at hw;obtain⟨φ1,H1,a,m,ps,T,v,e,p1,q1,r1,o1,i1,s1,b1⟩:=CP_ f0 (λv hv=>hz v hv) (no_ hw (j:=0) rfl rfl) hr hn;simp only[List.cons.injEq,and_true]at e;subst e;exact⟨φ1,H1,a,m,ps,T,p1,q1,r1,o1,.cons i1 .nil,s1,b1⟩
end
end Go.Am
namespace Go.Am
open List
structure dD_{α β:Type}(ek:α->RV)(ev:β->RV)(H:Hp)(l:Nat)(ps:List (α × β)):Prop where
 ex:∃es c,H[l]?=some (.map es c)/\es.map (λe=>(e.2.1,e.2.2))=ps.map (λp=>(ek p.1,ev p.2))/\(∀e∈es,e.1<c)/\(es.map (·.1)).Nodup
 nodup:(ps.map (·.1)).Nodup
structure t2_{α:Type}(ag:Bool)(lv:List LK)(ek:α->RV):Prop where
 fit:∀a,nI_ ag lv (ek a)=true
 inj:∀a b,ek a=ek b->a=b
theorem CO_ (h:nI_ ag lv k=true) (r:nI_ ag lv k'=true):∃e,k8_ k.cells k'.cells=some e/\(e=true↔k=k'):=by
 cases ag with
 | false=>
  cases k with
  |a _=>cases h
  | s v=>cases k' with
   |a _=>cases r
   |s G=>
    have⟨e,C,A⟩:=jz_ h r
    exact⟨e,C,A.trans ⟨λq=>by grind,λq=>by cases q;rfl⟩⟩
 | true=>
  cases k with
  |s _=>cases h
  | a F=>cases k' with
   |s _=>cases r
   |a D=>
    have⟨e,C,A⟩:=jz_ h r
    exact⟨e,C,A.trans ⟨λq=>by grind,λq=>by cases q;rfl⟩⟩
section
variable{α β:Type}[DecidableEq α]{ek:α->RV}{ev:β->RV}{ag:Bool}{lv:List LK}{H:Hp}{l:Nat}{ps:List (α × β)}
def look(ps:List (α × β))(k:α):Option β:=(ps.find? λp=>decide (p.1=k)).map (·.2)
def fD_(ps:List (α × β))(k:α)(v:β):List (α × β):=match look ps k with
 |some _=>ps.map λp=>if p.1=k then (k,v) else p
 |none=>ps++[(k,v)]
theorem wG_ (ok:t2_ ag lv ek) (k:α):∀{es:List Ent}{ps:List (α × β)} (i:Nat),es.map (λe=>(e.2.1,e.2.2))=ps.map (λp=>(ek p.1,ev p.2))->
 (look ps k=none/\pe_ ag lv (ek k) es i=some none/\∀p∈ps,p.1≠k)\/∃j v,look ps k=some v/\pe_ ag lv (ek k) es i=some (some (i+j))/\ps[j]?=some (k,v)
 |[],[],i,_=> .inl ⟨rfl,rfl,t_⟩
 |[],_::_,_,h=>by grind
 |_::_,[],_,h=>by grind
 | e::es,p::ps,i,h=>by
  simp[map_cons]at h;have⟨⟨I,U⟩,h3⟩:=h;have⟨q,G,D⟩:=CO_ (ok.fit k) (ok.fit p.1);by_cases r:p.1=k
  .right;refine⟨0,p.2,by simp[look,r],?_,by simp[<-r]⟩;have:=D.2 g_;subst this;simp[pe_,I,ok.fit,G]
  ·have A:q=false:=by
    cases q with
    |false=>rfl
    |true=>exact absurd (ok.inj _ _ (D.1 rfl)).symm r
   subst A;have O:look (p::ps) k=look ps k:=by simp[look,r]
   have J:pe_ ag lv (ek k) (e::es) i=pe_ ag lv (ek k) es (i+1):=by simp[pe_,I,ok.fit,G]
   rcases wG_ ok k (i+1) h3 with⟨N,C,F⟩|⟨j,v,N,C,F⟩
   .grind
   .exact .inr ⟨j+1,v,g_,by rw[J,C];congr 2;omega,F⟩
end
section
variable{α β:Type}{ek:α->RV}{ev:β->RV}{ag:Bool}{lv:List LK}{H:Hp}{l:Nat}{ps:List (α × β)}
theorem Ha_{es:List Ent}(h:es.map (λe=>(e.2.1,e.2.2))=ps.map λp=>(ek p.1,ev p.2)){j:Nat}(A:ps[j]?=some (k,v)):∃e,es[j]?=some e/\e.2.1=ek k/\e.2.2=ev v:=by
 have:=congrArg (λl:List (RV × RV)=>l[j]?) h;simp only[getElem?_map,A]at this;cases r:es[j]? with
 |none=>rw[r]at this;simp at this
 |some e=>rw[r]at this;simp at this;exact⟨e,rfl,this.1,this.2⟩
end
section
variable{α β:Type}[DecidableEq α]{ek:α->RV}{ev:β->RV}{ag:Bool}{lv:List LK}{H:Hp}{l:Nat}{ps:List (α × β)}
theorem fw_(ok:t2_ ag lv ek)(h:dD_ ek ev H l ps)(k:α)(I:∀v,look ps k=some v->K (ev v) true)(N:look ps k=none->K z false):tr_ H (some l) ag lv (ek k) z K:=by
 have⟨F,c,U,r,_,_⟩:=h.ex;unfold tr_;rcases wG_ ok k 0 r with⟨D,A,_⟩|⟨j,v,D,A,C⟩
 .grind
 .have⟨e,G,J,O⟩:=Ha_ r C;grind
end
section
variable{α β:Type}{ek:α->RV}{ev:β->RV}{ag:Bool}{lv:List LK}{H:Hp}{l:Nat}{ps:List (α × β)}
theorem lF_(h:dD_ ek ev H l ps)(C:K ps.length):pa_ H (some l) K:=by
 have⟨A,c,D,r,_,_⟩:=h.ex;unfold pa_;have:=congrArg length r;grind
end
section
variable{α β:Type}[DecidableEq α]{ek:α->RV}{ev:β->RV}{ag:Bool}{lv:List LK}{H:Hp}{l:Nat}{ps:List (α × β)}
theorem cU_ (h:look ps k=some v):(k,v)∈ps:=by
 unfold look at h;cases r:ps.find? λp=>decide (p.1=k) with
 |none=>rw[r]at h;cases h
 |some p=>
  grind
theorem oI_(h:look ps k=none):∀p∈ps,p.1≠k:=by
 unfold look at h;rw[Option.map_eq_none_iff,find?_eq_none]at h;grind
theorem oE_ (k:α) (v:β):(fD_ ps k v).map (·.1)=match look ps k with|some _=>ps.map (·.1)|none=>ps.map (·.1)++[k]:=by
 unfold fD_;cases look ps k with
 |none=>simp
 |some _=>
  simp only[map_map];apply map_congr_left;grind
theorem iz_ (ok:t2_ ag lv N) (h:dD_ N ev H l ps) (k:α) (v:β) {K:Hp->Prop} (hK:∀H',H'.length=H.length->(∀G,G≠l->H'[G]?=H[G]?)->dD_ N ev H' l (fD_ ps k v)->K H'):ya_ H (some l) ag lv (N k) (ev v) K:=by
 have⟨es,c,hm,O,hb,hn⟩:=h.ex;have F:=(kC.1 hm).1;unfold ya_;simp[hm];rcases wG_ ok k 0 O with⟨I,V,D⟩|⟨j,v0,I,V,D⟩
 .rw[V];refine hK _ t_ (λG U=>by rw[kF (Ne.symm U)]) ⟨⟨es++[(c,N k,ev v)],c+1,by rw[kH F],?_,?_,?_⟩,?_⟩
  .unfold fD_;rw[I];simp[O]
  .grind
  .rw[kL,kT];refine⟨hn,t_,λa Z b r q=>?_⟩;simp at r;have⟨e,Y,A⟩:=lA.1 Z;have:=hb e Y;omega
  .rw[oE_,I,kT];refine⟨h.nodup,t_,λa Z b r q=>?_⟩;simp at r;subst q;subst r;have⟨p,hp,A⟩:=lA.1 Z;exact D p hp A
 ·rw[V];have⟨e,J,A,e3⟩:=Ha_ O D;simp[J];refine hK _ t_ (λG U=>by rw[kF (Ne.symm U)]) ⟨⟨es.set j (e.1,e.2.1,ev v),c,by rw[kH F],?_,?_,?_⟩,?_⟩
  ·have W:fD_ ps k v=ps.set j (k,v):=by
    unfold fD_;rw[I];apply ext_getElem?;intro n;rw[getElem?_map,getElem?_set];by_cases C:j=n
    .subst C;rw[D];simp[(kC.1 D).1]
    ·rw[if_neg C];cases hx:ps[n]? with
     |none=>rfl
     | some p=>
      have hpk:p.1≠k:=λq=>by
       have hj1:(ps.map (·.1))[j]?=some k:=by rw[getElem?_map,D];rfl
       have hn1:(ps.map (·.1))[n]?=some k:=by rw[getElem?_map,hx,Option.map_some,q]
       have⟨l1,J⟩:=kC.1 hj1;obtain⟨l2,A⟩:=kC.1 hn1;rcases Nat.lt_or_gt_of_ne C with g|g
       .exact kS.1 h.nodup j n l1 l2 g (by rw[J,A])
       .exact kS.1 h.nodup n j l2 l1 g (by rw[J,A])
      simp[hpk]
   rw[W,List.map_set,List.map_set,O,A]
  .intro x hx;rcases mem_or_eq_of_mem_set hx with q|q
   .exact hb x q
   .rw[q];exact hb e (mem_of_getElem? J)
  .rw[List.map_set];grind
  .rw[oE_,I];exact h.nodup
end
structure fb_ {α β:Type} (ek:α->RV) (ev:β->RV) (H:Hp) (it l:Nat) (ps:List (α × β)) (js:List Nat):Prop where
 ex:∃es c,H[l]?=some (.map es c)/\es.map (λe=>(e.2.1,e.2.2))=ps.map (λp=>(ek p.1,ev p.2))/\(∀e∈es,e.1<c)/\(es.map (·.1)).Nodup/\
  H[it]?=some (.iter (some l) c (js.map λj=>((es[j]?).map (·.1)).getD 0) c)
 nod:js.Nodup
 lt:∀j∈js,j<ps.length
section
variable{α β:Type}{ek:α->RV}{ev:β->RV}{H H':Hp}{it l:Nat}{ps:List (α × β)}{js:List Nat}
theorem dD_.keep(h:dD_ ek ev H l ps)(e:H'[l]?=H[l]?):dD_ ek ev H' l ps:=by
 have⟨A,c,C,r⟩:=h.ex;exact⟨⟨A,c,g_,r⟩,h.nodup⟩
theorem dD_.lt(h:dD_ ek ev H l ps):l<H.length:=by
 have⟨r,c,A,_⟩:=h.ex;grind
theorem fb_.keep(h:fb_ ek ev H it l ps js)(I:H'[l]?=H[l]?)(D:H'[it]?=H[it]?):fb_ ek ev H' it l ps js:=by
 have⟨G,c,J,A,C,F,r⟩:=h.ex;exact⟨⟨G,c,g_,A,C,F,by rw[D];exact r⟩,h.nod,h.lt⟩
theorem fb_.lts(h:fb_ ek ev H it l ps js):l<H.length/\it<H.length:=by
 have⟨r,c,A,_,_,_,C⟩:=h.ex;grind
theorem fb_.map(h:fb_ ek ev H it l ps js)(C:(ps.map (·.1)).Nodup):dD_ ek ev H l ps:=by
 have⟨G,c,F,r,A,D,_⟩:=h.ex;exact⟨⟨G,c,F,r,A,D⟩,C⟩
theorem vW_(h:dD_ ek ev H l ps)(C:∀o,fb_ ek ev (H++[o]) H.length l ps []->K (H++[o])):rng H (some l) K:=by
 have⟨I,c,G,r,A,D⟩:=h.ex;unfold rng;simp[G];exact C _ ⟨⟨I,c,g_,r,A,D,by rw[getElem?_concat_length];rfl⟩,nodup_nil,λj F=>by cases F⟩
theorem BL_{es:List Ent}(h:es.map (λe=>(e.2.1,e.2.2))=ps.map λp=>(ek p.1,ev p.2)):es.length=ps.length:=by
 have:=congrArg length h;simpa
theorem Eg_{es:List Ent}(h:es.map (λe=>(e.2.1,e.2.2))=ps.map λp=>(ek p.1,ev p.2))(A:j<ps.length)(r:j<es.length):es[j].2.1=ek ps[j].1/\es[j].2.2=ev ps[j].2:=by
 have:=congrArg (λl:List (RV × RV)=>l[j]?) h;grind
theorem FN_{es:List Ent}(r:(es.map (·.1)).Nodup)(hi:i<es.length)(A:j<es.length)(h:es[i].1=es[j].1):i=j:=by
 rcases Nat.lt_trichotomy i j with g|g|g
 .exact absurd g_ (kS.1 r i j g_ g_ g)
 .exact g
 .exact absurd g_ (kS.1 r j i g_ g_ g)
theorem wQ_ (h:fb_ ek ev H it l ps js) (U:it≠l)
 (h1:∀j (D:j<ps.length),j∉js->∀H',H'.length=H.length->(∀O,O≠it->H'[O]?=H[O]?)->fb_ ek ev H' it l ps (js++[j])->K1 (ek ps[j].1) (ev ps[j].2) H')
 (h2:js.Perm (List.range ps.length)->K2 H):nxt H it 0 K1 K2:=by
 have⟨C,c,hm,Z,hb,hn,G⟩:=h.ex;have hl:=BL_ Z;have W:=(kC.1 G).1;have A:∀j (D:j<C.length),((C[j]?).map (·.1)).getD 0=C[j].1:=λj D=>by simp[kG D]
 refine⟨rfl,?_⟩;simp only[G,hm];refine⟨?_,λe r V=>?_,λhall=>?_⟩
 .cases C with
  |nil=>exact .inr (.inl rfl)
  |cons e C=>exact .inr (.inr ⟨e,t_,hb e t_⟩)
 ·obtain⟨j,D,rfl⟩:=kK r;have J:=λq=>V (lA.2 ⟨j,q,A j D⟩);have⟨e1,e2⟩:=Eg_ Z o_ D;rw[e1,e2];refine h1 j o_ J _ t_ (λO Y=>by rw[kF (Ne.symm Y)]) ⟨⟨C,c,by rw[kF U];exact hm,Z,hb,hn,?_⟩,?_,?_⟩
  .rw[kH W,kL,map_singleton,A j D]
  .rw[kT];exact⟨h.nod,t_,λa ha b I q=>by simp at I;subst q;subst I;exact J ha⟩
  ·intro i N;rcases kD.1 N with q|q
   .exact h.lt i q
   .have:i=j:=by simpa using q
    omega
 ·refine h2 ((perm_ext_iff_of_nodup h.nod nodup_range).2 λj=>⟨λq=>mem_range.2 (h.lt j q),λq=>?_⟩);have D:j<C.length:=by have:=mem_range.1 q;omega
  have r:C[j].1∈js.map λj=>((C[j]?).map (·.1)).getD 0:=by
   grind
  have⟨i,N,e⟩:=lA.1 r;have F:i<C.length:=by have:=h.lt i N;omega
  rw[A i F]at e;rw[<-FN_ hn F D e];exact N
theorem rP_ {j:Nat} (h:fb_ ek ev H it l ps (js++[j])) (G:j<ps.length) {K:RV->RV->Prop} (O:K (ek ps[j].1) (ev ps[j].2)):Dx_ H it 0 K:=by
 obtain⟨C,c,I,r,U,F,D⟩:=h.ex;have V:=BL_ r;have A:j<C.length:=by omega
 refine⟨rfl,?_⟩;simp only[D,I,kL,map_singleton,getLast?_concat,kG A,Option.map_some,Option.getD_some];have Y:C.find? (λe=>e.1==C[j].1)=some C[j]:=by
  have:∀{l:List Ent},(l.map (·.1)).Nodup->∀e∈l,l.find? (λx=>x.1==e.1)=some e:=by
   intro l;induction l with
   |nil=>intro _ e r;cases r
   |cons x l N=>
    intro F e r;rw[map_cons,nodup_cons]at F;rw[find?_cons];rcases kU.1 r with rfl|r
    .simp
    .grind
  grind
 obtain⟨J,W⟩:=Eg_ r G A;grind
end
def tT_(n:Int):Bool:=(leI 97 n&&leI n 122)||(leI 48 n&&leI n 57)
def jr_(s:Y_):Nat->Bool
 |0=>true
 |i+1=>jr_ s i&&tT_ (byt s i)
def a5_(s:Y_)(m:Int):Bool:=jr_ s s.size&&(leI 1 (sz s)&&leI (sz s) m)
theorem kU_ (h:tT_ (byt s i)=false):∀n,i<n->jr_ s n=false
 |0,r=>by omega
 | n+1,r=>by
  rcases Nat.lt_or_ge i n with q|q
  .simp[jr_,kU_ h n q]
  .obtain rfl:i=n:=by omega
   simp[jr_,h]
section
variable{H:Hp}{Q:Post}{s:Y_}
theorem lw_:s=mkS []↔s.size=0:=by
 constructor
 .simp_all
 .intro h;have:bs s=[]:=length_eq_zero_iff.1 (by simp_all);exact i5_ (by simp_all)
theorem pB_ {m:Int} (hs:s.size<=140737488351232) (hQ:Q (gB (a5_ s m)) H):dn_ [gS s,gI m] H Q:=by
 refine⟨s.size+2,?_⟩;rw[A5_];have loop:∀(f i:Nat),s.size-i<f->i<=s.size->jr_ s i=true->dn_.l2 f s m (sz s) (i:Int) H Q:=by
  intro f;induction f with
  |zero=>intro i h;omega
  | succ f ih=>
   intro i hf hi hw;rw[dn_.l2_eq];rcases Nat.lt_or_ge i s.size with hi' |hi'
   ·rw[az_ (by simp[op_];omega)];refine ab_ (by simp[op_];omega) ?_;have etN:tN (i:Int)=i:=rfl;rw[etN,an_ o_];have nx:tT_ (byt s i)=true->dn_.l2 f s m (sz s) ((i+1:Nat):Int) H Q:=λh=>ih (i+1) o_ o_ (by simp[jr_,hw,h]);have no:tT_ (byt s i)=false->Q (gB false) H:=λh=>by
     have:a5_ s m=false:=by unfold a5_;rw[kU_ h _ hi'];rfl
     rw[<-this];exact hQ
    generalize byt s i=b at*;refine aa_ (λe1=>aa_ (λe2=>no ?_) λe2=>aa_ (λe3=>no ?_) λe3=>nx ?_) (λe1=>aa_ (λe2=>aa_ (λe3=>no ?_) λe3=>aa_ (λe4=>no ?_) λe4=>nx ?_) λe2=>nx ?_)<;>
     simp[tT_] at* <;>omega
   ·obtain rfl:i=s.size:=by omega
    rw[aA_ (by simp[op_])];unfold a5_ at hQ;rw[hw,Bool.true_and]at hQ;refine aa_ (λe=>?_) λe=>?_
    .have h0:s.size≠0:=λz=>by rw[lw_.2 z]at e;simp at e
     rw[show leI 1 (sz s)=true by simp[op_];omega,Bool.true_and]at hQ;exact hQ
    .have h0:s.size=0:=lw_.1 (by simpa using e);rw[show leI 1 (sz s)=false by simp[op_];omega,Bool.false_and]at hQ;exact hQ
 exact loop _ 0 o_ (kP _) rfl
theorem mn_ {m:Int} (hs:s.size<=140737488351232) (hQ:Q (gB (a5_ s m)) H):cm_ [gS s,gI m] H Q:=by
 refine⟨s.size+2,?_⟩;rw[x7_];have loop:∀(f i:Nat),s.size-i<f->i<=s.size->jr_ s i=true->cm_.l2 f s m (i:Int) H Q:=by
  intro f;induction f with
  |zero=>intro i h;omega
  | succ f ih=>
   intro i hf hi hw;rw[cm_.l2_eq];rcases Nat.lt_or_ge i s.size with hi' |hi'
   ·rw[az_ (by simp[op_];omega)];have hck:(leI 0 (i:Int)&&ltI (i:Int) (sz s))=true:=by simp[op_];omega
    rw[hck];simp only[af_];have etN:tN (i:Int)=i:=rfl;rw[etN,an_ o_];have nx:tT_ (byt s i)=true->cm_.l2 f s m ((i+1:Nat):Int) H Q:=λh=>ih (i+1) o_ o_ (by simp[jr_,hw,h]);have no:tT_ (byt s i)=false->Q (gB false) H:=λh=>by
     have:a5_ s m=false:=by unfold a5_;rw[kU_ h _ hi'];rfl
     rw[<-this];exact hQ
    generalize byt s i=b at*;refine aa_ (λe1=>aa_ (λe2=>nx ?_) λe2=>aa_ (λe3=>aa_ (λe4=>no ?_) λe4=>nx ?_) λe3=>no ?_) (λe1=>aa_ (λe3=>aa_ (λe4=>no ?_) λe4=>nx ?_) λe3=>no ?_)<;>
     simp[tT_] at* <;>omega
   .obtain rfl:i=s.size:=by omega
    rw[aA_ (by simp[op_])];unfold a5_ at hQ;rw[hw,Bool.true_and]at hQ;refine aa_ (λe=>?_) λe=>?_
    .rw[e,Bool.true_and]at hQ;exact hQ
    .rw[e,Bool.false_and]at hQ;exact hQ
 exact loop _ 0 o_ (kP _) rfl
end
theorem ej_(h:(!b)=true):b=false:=by cases b<;>simp_all
theorem e0_(h:(!b)=false):b=true:=by cases b<;>simp_all
theorem lk_(s:Y_)(l h:Nat):(sub s l h).size<=s.size:=by
 unfold sub;rw[ByteArray.size_extract];omega
theorem kW_(s:Y_)(j:Nat):0<=byt s j/\byt s j<=255:=by
 unfold byt;have:((s.data.toList.getD j 0).toNat)<256:=UInt8.toNat_lt _;omega
theorem e5_(s:Y_)(j:Nat):ac_ .i64 (byt s j)=byt s j:=by
 have:=kW_ s j;exact b9_ o_ o_
def cn_(s:Y_):Option Y_:=match leI 1 (sz s)&&(eqI (byt s 0) 115&&a5_ (sub s 1 s.size) 4) with|true=>some (sub s 1 s.size)|false=>none
def bV_(s:Y_):Option (Int × Y_):=match leI 2 (sz s)&&(eqI (byt s 0) 102&&(leI 1 (byt s 1)&&a5_ (sub s 2 s.size) 3)) with|true=>some (byt s 1,sub s 2 s.size)|false=>none
def c2_(s:Y_):Option Int:=match eqI (sz s) 2&&(eqI (byt s 0) 105&&leI 1 (byt s 1)) with|true=>some (byt s 1)|false=>none
structure SnapR where
 id:Int
 kind:Int
 parent:Y_
 label:Y_
 deriving DecidableEq
structure InoR where
 links:Int
 content:Y_
 deriving DecidableEq
def SnapR.cells(x:SnapR):List GV:=[.int .i64 x.id,.int .i64 x.kind,.str x.parent,.str x.label]
def InoR.cells(x:InoR):List GV:=[.int .i64 x.links,.str x.content]
def kD_:SnapR:=⟨0,0,mkS [],mkS []⟩
def xU_:InoR:=⟨0,mkS []⟩
def fv_(x:SnapR):Bool:=(leI 1 x.id&&leI x.id 255)&&((leI 0 x.kind&&leI x.kind 2)&&((f5_ x.parent (mkS [])||a5_ x.parent 4)&&leI (sz x.label) 3))
def ei_(x:InoR):Bool:=(leI 1 x.links&&leI x.links 255)&&leI (sz x.content) 6
def nN_(s:Y_):SnapR:=⟨byt s 0,byt s 1,sub s 3 (tN (3+byt s 2)),sub s (tN (3+byt s 2)) s.size⟩
def ud_(s:Y_):InoR:=⟨byt s 0,sub s 1 s.size⟩
def bB_(s:Y_):Option SnapR:=match leI 3 (sz s)&&(leI (3+byt s 2) (sz s)&&fv_ (nN_ s)) with|true=>some (nN_ s)|false=>none
def cN_(s:Y_):Option InoR:=match leI 1 (sz s)&&ei_ (ud_ s) with|true=>some (ud_ s)|false=>none
def JT_(o:Option SnapR):Int:=match o with|some _=>0|none=>1700
def JF_(o:Option InoR):Int:=match o with|some _=>0|none=>1800
section
variable{H:Hp}{Q:Post}{s:Y_}
theorem e1_(r:s.size<=140737488351232)(A:Q (gB (a5_ s 4)) H):cX_ [gS s] H Q:=by
 refine⟨1,?_⟩;rw[xW_];refine pB_ r ?_;simp_all
theorem f7_(r:s.size<=140737488351232)(A:Q (gB (a5_ s 3)) H):df_ [gS s] H Q:=by
 refine⟨1,?_⟩;rw[yf_];refine pB_ r ?_;simp_all
theorem cB_(r:s.size<=140737488351232)(A:Q (gB (a5_ s 4)) H):bs_ [gS s] H Q:=by
 refine⟨1,?_⟩;rw[rY_];refine mn_ r ?_;simp_all
theorem fY_(r:s.size<=140737488351232)(A:Q (gB (a5_ s 3)) H):cH_ [gS s] H Q:=by
 refine⟨1,?_⟩;rw[tg_];refine mn_ r ?_;simp_all
theorem hA_(r:Q (gB (leI 1 n&&leI n 255)) H):gI_ [gI n] H Q:=by
 refine⟨1,?_⟩;rw[FC_];refine aa_ (λe=>?_) λe=>?_
 .grind
 .grind
theorem gR_(r:Q (gB (leI 1 n&&leI n 255)) H):dj_ [gI n] H Q:=by
 refine⟨1,?_⟩;rw[vZ_];refine aa_ (λe=>?_) λe=>?_
 .grind
 .grind
theorem nZ_(A:1<=n)(r:Q (gB (leI n (sz s)&&eqI (byt s 0) p)) H):jI_ [gS s,.g (.int .u8 p),gI n] H Q:=by
 refine⟨1,?_⟩;rw[Fa_];refine aa_ (λe=>?_) λe=>?_
 .rw[e,Bool.true_and]at r;refine ab_ (by simp at e ⊢;omega) ?_;exact r
 .grind
theorem xF_ (hs:s.size<=140737488351232) (hQ:Q (.tup [.s (.str ((cn_ s).getD (mkS []))),.s (.bool (cn_ s).isSome)]) H):jX_ [gS s] H Q:=by
 have hz:=lk_ s 1 s.size;refine⟨1,?_⟩;rw[Bp_];refine nZ_ o_ ?_;simp only[aN_,ao_];refine aa_ (λe=>?_) λe=>?_
 .have:cn_ s=none:=by unfold cn_;rw[<-Bool.and_assoc,ej_ e];rfl
  rw[this]at hQ;exact hQ
 ·have e':(leI 1 (sz s)&&eqI (byt s 0) 115)=true:=by simpa using e
  have h1:1<=s.size:=by simp at e';omega
  refine ab_ s_ ?_;refine e1_ (Nat.le_trans hz hs) ?_;simp only[aN_,ao_];refine aa_ (λe2=>?_) λe2=>?_
  .have:cn_ s=none:=by unfold cn_;rw[<-Bool.and_assoc,e',show a5_ (sub s 1 s.size) 4=false by simpa using e2];rfl
   rw[this]at hQ;exact hQ
  .have:cn_ s=some (sub s 1 s.size):=by unfold cn_;rw[<-Bool.and_assoc,e',show a5_ (sub s 1 s.size) 4=true by simpa using e2];rfl
   rw[this]at hQ;refine ab_ s_ ?_;exact hQ
theorem rW_ (hs:s.size<=140737488351232) (hQ:Q (.tup [.s (.str ((cn_ s).getD (mkS []))),.s (.bool (cn_ s).isSome)]) H):fT_ [gS s] H Q:=by
 have hz:=lk_ s 1 s.size;refine⟨1,?_⟩;rw[uZ_];refine aa_ (λe=>?_) λe=>?_
 .have:cn_ s=none:=by unfold cn_;rw[show leI 1 (sz s)=false by simp at e ⊢;omega];rfl
  rw[this]at hQ;exact hQ
 ·have h1:1<=s.size:=by simp at e;omega
  have e0:leI 1 (sz s)=true:=by simp;omega
  refine ab_ s_ ?_;refine aa_ (λe1=>?_) λe1=>?_
  .have:cn_ s=none:=by unfold cn_;rw[show eqI (byt s 0) 115=false by simpa using e1,e0];rfl
   rw[this]at hQ;exact hQ
  have e1':eqI (byt s 0) 115=true:=by simpa using e1
  refine ab_ s_ ?_;refine cB_ (Nat.le_trans hz hs) ?_;simp only[aN_,ao_];refine aa_ (λe2=>?_) λe2=>?_
  .have:cn_ s=none:=by unfold cn_;rw[e0,e1',show a5_ (sub s 1 s.size) 4=false by simpa using e2];rfl
   rw[this]at hQ;exact hQ
  .have:cn_ s=some (sub s 1 s.size):=by unfold cn_;rw[e0,e1',show a5_ (sub s 1 s.size) 4=true by simpa using e2];rfl
   rw[this]at hQ;refine ab_ s_ ?_;exact hQ
theorem xE_ (hs:s.size<=140737488351232) (hQ:Q (.tup [nN ((bV_ s).map (·.1) |>.getD 0),.s (.str ((bV_ s).map (·.2) |>.getD (mkS []))),.s (.bool (bV_ s).isSome)]) H):jK_ [gS s] H Q:=by
 have hz:=lk_ s 2 s.size;refine⟨1,?_⟩;rw[Bu_];refine nZ_ o_ ?_;simp only[aN_,ao_];refine aa_ (λe=>?_) λe=>?_
 .have:bV_ s=none:=by unfold bV_;rw[<-Bool.and_assoc,ej_ e];rfl
  rw[this]at hQ;exact hQ
 ·have e':(leI 2 (sz s)&&eqI (byt s 0) 102)=true:=by simpa using e
  have h1:2<=s.size:=by simp at e';omega
  have hb:=kW_ s 1;refine ab_ s_ ?_;refine hA_ ?_;simp only[aN_,ao_];rw[show tN 1=1 from rfl,e5_];refine aa_ (λe2=>?_) λe2=>?_
  .have:bV_ s=none:=by unfold bV_;rw[<-Bool.and_assoc,e',show leI 1 (byt s 1)=false by simp at e2 ⊢;omega];rfl
   rw[this]at hQ;exact hQ
  ·have e3:leI 1 (byt s 1)=true:=by simp at e2 ⊢;omega
   refine ab_ s_ ?_;refine f7_ (Nat.le_trans hz hs) ?_;simp only[aN_,ao_];refine aa_ (λe4=>?_) λe4=>?_
   .have:bV_ s=none:=by unfold bV_;rw[<-Bool.and_assoc,e',e3,show a5_ (sub s 2 s.size) 3=false by simpa using e4];rfl
    rw[this]at hQ;exact hQ
   .have:bV_ s=some (byt s 1,sub s 2 s.size):=by unfold bV_;rw[<-Bool.and_assoc,e',e3,show a5_ (sub s 2 s.size) 3=true by simpa using e4];rfl
    rw[this]at hQ;exact ab_ s_ (ab_ s_ hQ)
theorem qX_ (hs:s.size<=140737488351232) (hQ:Q (.tup [nN ((bV_ s).map (·.1) |>.getD 0),.s (.str ((bV_ s).map (·.2) |>.getD (mkS []))),.s (.bool (bV_ s).isSome)]) H):f2_ [gS s] H Q:=by
 have hz:=lk_ s 2 s.size;have hb:=kW_ s 1;refine⟨1,?_⟩;rw[uv_];refine aa_ (λe=>?_) λe=>?_
 .have:bV_ s=none:=by unfold bV_;rw[show leI 2 (sz s)=false by simp at e ⊢;omega];rfl
  rw[this]at hQ;exact hQ
 ·have h1:2<=s.size:=by simp at e;omega
  have e0:leI 2 (sz s)=true:=by simp;omega
  refine ab_ s_ ?_;refine aa_ (λe1=>?_) λe1=>?_
  .have:bV_ s=none:=by unfold bV_;rw[show eqI (byt s 0) 102=false by simpa using e1,e0];rfl
   rw[this]at hQ;exact hQ
  have e1':eqI (byt s 0) 102=true:=by simpa using e1
  refine ab_ s_ ?_;rw[show tN 1=1 from rfl,e5_];refine aa_ (λe2=>?_) λe2=>?_
  .have:bV_ s=none:=by unfold bV_;rw[e0,e1',show leI 1 (byt s 1)=false by simp at e2 ⊢;omega];rfl
   rw[this]at hQ;exact hQ
  ·have e3:leI 1 (byt s 1)=true:=by simp at e2 ⊢;omega
   refine ab_ s_ ?_;refine fY_ (Nat.le_trans hz hs) ?_;simp only[aN_,ao_];refine aa_ (λe4=>?_) λe4=>?_
   .have:bV_ s=none:=by unfold bV_;rw[e0,e1',e3,show a5_ (sub s 2 s.size) 3=false by simpa using e4];rfl
    rw[this]at hQ;exact hQ
   .have:bV_ s=some (byt s 1,sub s 2 s.size):=by unfold bV_;rw[e0,e1',e3,show a5_ (sub s 2 s.size) 3=true by simpa using e4];rfl
    rw[this]at hQ;exact ab_ s_ (ab_ s_ hQ)
theorem uf_ (F:Q (.tup [nN ((c2_ s).getD 0),.s (.bool (c2_ s).isSome)]) H):hq_ [gS s] H Q:=by
 have G:=kW_ s 1;refine⟨1,?_⟩;rw[yg_];refine nZ_ o_ (aa_ (λe=>?_) λe=>?_)
 ·have:c2_ s=none:=by
   unfold c2_;have:(eqI (sz s) 2&&(eqI (byt s 0) 105&&leI 1 (byt s 1)))=false:=by
    cases h:(eqI (sz s) 2&&(eqI (byt s 0) 105&&leI 1 (byt s 1))) with
    |false=>rfl
    |true=>simp at h e;omega
   grind
  grind
 ·have C:eqI (byt s 0) 105=true:=by grind
  refine aa_ (λD=>?_) λD=>?_
  .have:c2_ s=none:=by unfold c2_;rw[show eqI (sz s) 2=false by simpa using D];rfl
   grind
  ·have r:eqI (sz s) 2=true:=by grind
   refine ab_ (by simp_all) (hA_ ?_);rw[show tN 1=1 from rfl,e5_];refine aa_ (λA=>?_) λA=>?_
   .have:c2_ s=none:=by unfold c2_;rw[r,C,show leI 1 (byt s 1)=false by simp at A ⊢;omega];rfl
    grind
   .have:c2_ s=some (byt s 1):=by unfold c2_;rw[r,C,show leI 1 (byt s 1)=true by simp at A ⊢;omega];rfl
    simp_all
theorem oP_ (G:Q (.tup [nN ((c2_ s).getD 0),.s (.bool (c2_ s).isSome)]) H):eG_ [gS s] H Q:=by
 have I:=kW_ s 1;refine⟨1,?_⟩;rw[qV_];refine aa_ (λF=>?_) λF=>?_
 .have:c2_ s=none:=by unfold c2_;rw[show eqI (sz s) 2=false by simpa using F];rfl
  grind
 ·have r:eqI (sz s) 2=true:=by grind
  refine ab_ (by simp_all) (aa_ (λD=>?_) λD=>?_)
  .have:c2_ s=none:=by unfold c2_;rw[r,show eqI (byt s 0) 105=false by simpa using D];rfl
   grind
  have A:eqI (byt s 0) 105=true:=by simp_all
  refine ab_ (by simp_all) ?_;rw[show tN 1=1 from rfl,e5_];refine aa_ (λC=>?_) λC=>?_
  .have:c2_ s=none:=by unfold c2_;rw[r,A,show leI 1 (byt s 1)=false by simp at C ⊢;omega];rfl
   grind
  .have:c2_ s=some (byt s 1):=by unfold c2_;rw[r,A,show leI 1 (byt s 1)=true by simp at C ⊢;omega];rfl
   simp_all
end
section
variable{H:Hp}{Q:Post}{s:Y_}
theorem nU_(r:Q (gB (leI 0 n&&leI n 2)) H):gM_ [gI n] H Q:=by
 refine⟨1,?_⟩;rw[Ab_];refine aa_ (λe=>?_) λe=>?_
 .grind
 .grind
theorem i2_(r:Q (gB (leI (sz s) 3)) H):fV_ [gS s] H Q:=⟨1,r⟩
theorem hl_(r:Q (gB (leI (sz s) 6)) H):du_ [gS s] H Q:=⟨1,r⟩
theorem py_ (G:x.parent.size<=140737488351232) (F:Q (gB (fv_ x)) H):hR_ [.agg [.int .i64 x.id,.int .i64 x.kind,.str x.parent,.str x.label]] H Q:=by
 refine⟨1,?_⟩;rw[Bo_];unfold fv_ at F;refine hA_ (aa_ (λD=>?_) λD=>?_)
 rotate_left
 .grind
 refine nU_ (aa_ (λA=>?_) λA=>?_)
 rotate_left
 .grind
 refine aa_ (λC=>?_) λC=>?_
 .refine i2_ ?_;simp_all
 .refine e1_ G (aa_ (λr=>?_) λr=>?_)
  .refine i2_ ?_;simp_all
  .grind
theorem jG_ (I:x.parent.size<=140737488351232) (G:Q (gB (fv_ x)) H):dW_ [.agg [.int .i64 x.id,.int .i64 x.kind,.str x.parent,.str x.label]] H Q:=by
 refine⟨1,?_⟩;rw[sD_];unfold fv_ at G;refine gR_ (aa_ (λD=>?_) λD=>?_)
 rotate_left
 .grind
 refine aa_ (λA=>?_) λA=>?_
 rotate_left
 .grind
 refine aa_ (λF=>?_) λF=>?_
 rotate_left
 .grind
 refine aa_ (λC=>?_) λC=>?_
 .grind
 .refine cB_ I (aa_ (λr=>?_) λr=>?_)
  .grind
  .grind
theorem nf_(A:Q (gB (ei_ x)) H):gN_ [.agg [.int .i64 x.links,.str x.content]] H Q:=by
 refine⟨1,?_⟩;rw[y9_];unfold ei_ at A;refine hA_ (aa_ (λr=>?_) λr=>?_)
 .refine hl_ ?_;simp_all
 .grind
theorem jc_(A:Q (gB (ei_ x)) H):dw_ [.agg [.int .i64 x.links,.str x.content]] H Q:=by
 refine⟨1,?_⟩;rw[qP_];unfold ei_ at A;refine gR_ (aa_ (λr=>?_) λr=>?_)
 .grind
 .grind
theorem xZ_ (V:s.size<=140737488351232) (r:Q (.tup [.a ((bB_ s).getD kD_).cells,nN (JT_ (bB_ s))]) H):j1_ [gS s] H Q:=by
 have Y:=kW_ s 2;refine⟨1,?_⟩;rw[B2_];refine aa_ (λI=>?_) λI=>?_
 .have:bB_ s=none:=by unfold bB_;rw[show leI 3 (sz s)=false by simp at I ⊢;omega];rfl
  rw[this]at r;exact r
 have W:3<=s.size:=by simp at I;omega
 have A:leI 3 (sz s)=true:=by simp_all
 have N:tN 2=2:=rfl;have J:tN 1=1:=rfl;have U:tN 0=0:=rfl;have O:tN 3=3:=rfl;rw[U,J,N,O,e5_,e5_,e5_,b9_ s_ s_,b9_ o_ o_];refine ab_ s_ ?_;refine aa_ (λF=>?_) λF=>?_
 .have:bB_ s=none:=by unfold bB_;rw[show leI (3+byt s 2) (sz s)=false by simp at F ⊢;omega,A];rfl
  rw[this]at r;exact r
 have C:leI (3+byt s 2) (sz s)=true:=by simp at F ⊢;omega
 have D:(tN (3+byt s 2))<=s.size:=by simp_all
 refine ab_ s_ (ab_ s_ (ab_ s_ (ab_ s_ (ab_ (by simp at D ⊢;omega) ?_))));refine ab_ s_ (ab_ (by simp at D ⊢;omega) ?_);refine py_ (x:=nN_ s) (Nat.le_trans (lk_ _ _ _) V) (aa_ (λG=>?_) λG=>?_)
 .have:bB_ s=none:=by unfold bB_;rw[A,C,ej_ G];rfl
  rw[this]at r;exact r
 .have:bB_ s=some (nN_ s):=by unfold bB_;rw[A,C,e0_ G];rfl
  rw[this]at r;exact r
theorem qf_ (V:s.size<=140737488351232) (r:Q (.tup [.a ((bB_ s).getD kD_).cells,nN (JT_ (bB_ s))]) H):fj_ [gS s] H Q:=by
 have Y:=kW_ s 2;refine⟨1,?_⟩;rw[sq_];refine aa_ (λG=>?_) λG=>?_
 .have:bB_ s=none:=by unfold bB_;rw[show leI 3 (sz s)=false by simp at G ⊢;omega];rfl
  rw[this]at r;exact r
 have W:3<=s.size:=by simp at G;omega
 have A:leI 3 (sz s)=true:=by simp_all
 have N:tN 2=2:=rfl;have J:tN 1=1:=rfl;have U:tN 0=0:=rfl;have O:tN 3=3:=rfl;rw[U,J,N,O,e5_,e5_,e5_,b9_ o_ o_];refine ab_ s_ ?_;refine aa_ (λI=>?_) λI=>?_
 .have:bB_ s=none:=by unfold bB_;rw[show leI (3+byt s 2) (sz s)=false by simp at I ⊢;omega,A];rfl
  rw[this]at r;exact r
 have C:leI (3+byt s 2) (sz s)=true:=by simp_all
 have D:(tN (3+byt s 2))<=s.size:=by simp_all
 refine ab_ s_ (ab_ s_ (ab_ s_ (ab_ s_ (ab_ (by simp at D ⊢;omega) ?_))));refine ab_ s_ (ab_ (by simp at D ⊢;omega) ?_);refine jG_ (x:=nN_ s) (Nat.le_trans (lk_ _ _ _) V) (aa_ (λF=>?_) λF=>?_)
 .have:bB_ s=none:=by unfold bB_;rw[A,C,ej_ F];rfl
  rw[this]at r;exact r
 .have:bB_ s=some (nN_ s):=by unfold bB_;rw[A,C,e0_ F];rfl
  rw[this]at r;exact r
theorem wS_ (G:s.size<=140737488351232) (r:Q (.tup [.a ((cN_ s).getD xU_).cells,nN (JF_ (cN_ s))]) H):iq_ [gS s] H Q:=by
 refine⟨1,?_⟩;rw[zr_];refine aa_ (λD=>?_) λD=>?_
 .have F:s.size=0:=lw_.1 (by simp_all);have:cN_ s=none:=by unfold cN_;rw[show leI 1 (sz s)=false by simp;omega];rfl
  rw[this]at r;exact r
 have F:s.size≠0:=λz=>by rw[lw_.2 z]at D;simp at D
 have A:leI 1 (sz s)=true:=by simp;omega
 rw[show tN 0=0 from rfl,show tN 1=1 from rfl,e5_];refine ab_ s_ (ab_ s_ ?_);refine nf_ (x:=ud_ s) (aa_ (λC=>?_) λC=>?_)
 .have:cN_ s=none:=by unfold cN_;rw[A,ej_ C];rfl
  rw[this]at r;exact r
 .have:cN_ s=some (ud_ s):=by unfold cN_;rw[A,e0_ C];rfl
  rw[this]at r;exact r
theorem o2_ (G:s.size<=140737488351232) (r:Q (.tup [.a ((cN_ s).getD xU_).cells,nN (JF_ (cN_ s))]) H):eC_ [gS s] H Q:=by
 refine⟨1,?_⟩;rw[rA_];refine aa_ (λD=>?_) λD=>?_
 .have F:s.size=0:=lw_.1 (by simp_all);have:cN_ s=none:=by unfold cN_;rw[show leI 1 (sz s)=false by simp;omega];rfl
  rw[this]at r;exact r
 have F:s.size≠0:=λz=>by rw[lw_.2 z]at D;simp at D
 have A:leI 1 (sz s)=true:=by simp;omega
 rw[show tN 0=0 from rfl,show tN 1=1 from rfl,e5_];refine ab_ s_ (ab_ s_ ?_);refine jc_ (x:=ud_ s) (aa_ (λC=>?_) λC=>?_)
 .have:cN_ s=none:=by unfold cN_;rw[A,ej_ C];rfl
  rw[this]at r;exact r
 .have:cN_ s=some (ud_ s):=by unfold cN_;rw[A,e0_ C];rfl
  rw[this]at r;exact r
end
end Go.Am
namespace Go.Am
def blt(a b:Y_):Bool:=Op.bytesLess (bs a) (bs b)
theorem hM_(a b:Y_):dE_ a b=blt a b:=jD_ a b
def Ih_:List Y_->Bool
 |[]=>true
 |[_]=>true
 |a::b::r=>Op.bytesLess (bs a) (bs b)&&Ih_ (b::r)
theorem w6_:∀xs:List Y_,Ih_ xs=true↔id_ xs
 |[]=>⟨λ_ i h=>absurd h t_,λ_=>rfl⟩
 |[_]=>⟨λ_ i h=>absurd h t_,λ_=>rfl⟩
 | a::b::r=>by
  have F:=w6_ (b::r);simp[Ih_,F,<-jD_];constructor
  .rintro⟨D,C⟩ i A;cases i with
   |zero=>exact D
   |succ i=>exact C i g_
  .exact λh=>⟨h 0 t_,λi A=>h (i+1) g_⟩
def nodB:List Int->Bool
 |[]=>true
 |a::r=> !(r.contains a)&&nodB r
theorem Cf_:∀xs:List Int,nodB xs=true↔xs.Nodup
 |[]=>by simp[nodB]
 |a::r=>by simp[nodB,Cf_ r]
def Ev_ (p:Pg):Bool:=p.used&&(Ih_ p.keys&&(p.keys.all (λk=>decide (1<=k.size)&&decide (k.size<=6))&&
 (match p.leaf with
  |true=>decide (p.vals.length=p.keys.length)&&(p.kids.isEmpty&&p.vals.all λv=>decide (v.size<=10))
  |false=>decide (1<=p.keys.length)&&(p.vals.isEmpty&&(decide (p.kids.length=p.keys.length+1)&&(p.kids.all (λk=>decide (1<=k)&&decide (k<48))&&nodB p.kids))))))
theorem EZ_ (p:Pg):Ev_ p=true↔iJ_ p:=by
 have⟨u,l,r,A,is⟩:=p;cases l with
 |true=>
  simp[Ev_,w6_];exact⟨λh=>⟨h.1,h.2.1,h.2.2.1,λ_=>h.2.2.2,λq=>g_⟩,λh=>⟨h.used,h.rising,h.keys,h.leaf rfl⟩⟩
 |false=>
  simp[Ev_,w6_,Cf_];exact⟨λh=>⟨h.1,h.2.1,h.2.2.1,λq=>g_,λ_=>h.2.2.2⟩,λh=>⟨h.used,h.rising,h.keys,h.inner rfl⟩⟩
def kr_(p:Pg):Bool:=decide (p.keys.length<=4)&&Ev_ p
theorem dZ_(p:Pg):kr_ p=true↔fg_ p:=by simp[kr_,fg_,EZ_]
structure WS where
 met:List Bool
 deep:Nat
 count:Nat
def gj_(lo hi:Y_)(ks:List Y_):Bool:=ks.all λk=> !(blt k lo)&&(decide (hi.size=0)||blt k hi)
def loK(p:Pg)(lo:Y_)(i:Nat):Y_:=match decide (0<i) with|true=>p.keys[i-1]?.getD lo|false=>lo
def hiK(p:Pg)(hi:Y_)(i:Nat):Y_:=p.keys[i]?.getD hi
def gm_ (rec:Int->Nat->WS->Option WS):List Int->Nat->WS->Option WS
 |[],_,st=>some st
 |k::ks,i,st=>match rec k i st with
  |none=>none
  |some st'=>gm_ rec ks (i+1) st'
def okD(p:Pg)(at_:Nat)(lo hi:Y_)(st:WS):Bool:= !(st.met[at_]?.getD true)&&(kr_ p&&(!(decide (0<at_)&&decide (p.keys.length<2))&&gj_ lo hi p.keys))
def leafD (p:Pg) (deep:Nat) (st:WS):Option WS:=match decide (st.deep=0) with
 |true=>some ⟨st.met,deep,st.count+p.keys.length⟩
 |false=>match decide (st.deep=deep) with
  |true=>some ⟨st.met,deep,st.count+p.keys.length⟩
  |false=>none
def cO_ (T:List Pg):Nat->Nat->Nat->Y_->Y_->WS->Option WS
 |0,_,_,_,_,_=>none
 | f+1,at_,deep,lo,hi,st=>match T[at_]? with
  |none=>none
  | some p=>match okD p at_ lo hi st with
   |false=>none
   |true=>match p.leaf with
    |true=>leafD p deep ⟨st.met.set at_ true,st.deep,st.count⟩
    |false=>gm_ (λk i s=>cO_ T f k.toNat (deep+1) (loK p lo i) (hiK p hi i) s) p.kids 0 ⟨st.met.set at_ true,st.deep,st.count⟩
def cQ_(p:Pg):Bool:= !p.used&&(!p.leaf&&(p.keys.isEmpty&&(p.vals.isEmpty&&p.kids.isEmpty)))
def hB_(T:List Pg)(met:List Bool):Bool:=(List.range T.length).all λi=>met[i]?.getD true||cQ_ (T[i]?.getD noPg)
def ws0:WS:=⟨List.replicate 48 false,0,0⟩
def aJ_ (T:List Pg):Nat:=match decide (T.length=48) with
 |false=>0
 | true=>match cO_ T 49 0 1 (mkS []) (mkS []) ws0 with
  |none=>0
  |some st=>match hB_ T st.met&&decide (st.count<=60) with
   |true=>st.deep
   |false=>0
def gf_(met:List Bool):Nat:=(met.filter (! ·)).length
theorem oD_:∀{met:List Bool}{i:Nat},met[i]?=some false->gf_ (met.set i true)+1=gf_ met
 |[],i,h=>by grind
 |b::met,0,h=>by simp at h;subst h;simp[gf_]
 |b::met,i+1,h=>by
  have:=oD_ (met:=met) (i:=i) g_;unfold gf_ at this ⊢;grind
theorem iE_ (T:List Pg):∀f D A lo hi st C,cO_ T f D A lo hi st=some C->gf_ C.met<=gf_ st.met/\C.met.length=st.met.length/\(1<=A->C.deep≠0)/\C.count+4*gf_ C.met<=st.count+4*gf_ st.met:=by
 intro f;induction f with
 |zero=>intro _ _ _ _ _ _ h;cases h
 | succ f ih=>
  intro D A lo hi st C h;unfold cO_ at h;cases V:T[D]? with
  |none=>rw[V]at h;cases h
  | some p=>
   rw[V]at h;dsimp at h;cases r:okD p D lo hi st with
   |false=>rw[r]at h;cases h
   | true=>
    rw[r]at h;have hm:st.met[D]?=some false:=by
     unfold okD at r;rw[kR]at r;have:=r.1;cases U:st.met[D]? with
     |none=>rw[U]at this;simp at this
     |some b=>rw[U]at this;simp at this;rw[this]
    have hu:=oD_ hm;have h4:p.keys.length<=4:=by
     unfold okD at r;simp only[kR]at r;exact ((dZ_ p).1 r.2.1).1
    cases I:p.leaf with
    | true=>
     rw[I]at h;dsimp[leafD]at h;split at h
     .cases h;exact⟨by dsimp;omega,t_,λhd=>by dsimp;omega,by dsimp;omega⟩
     .split at h
      .cases h;exact⟨by dsimp;omega,t_,λhd=>by dsimp;omega,by dsimp;omega⟩
      .cases h
    | false=>
     rw[I]at h;have hk:p.kids≠[]:=by
      intro e;unfold okD at r;simp only[kR]at r;have:=((dZ_ p).1 r.2.1).2.inner I;rw[e]at this;simp at this
     have key:∀G i (s F),gm_ (λk i s=>cO_ T f k.toNat (A+1) (loK p lo i) (hiK p hi i) s) G i s=some F->gf_ F.met<=gf_ s.met/\F.met.length=s.met.length/\(G≠[]\/s.deep≠0->F.deep≠0)/\F.count+4*gf_ F.met<=s.count+4*gf_ s.met:=by
      intro G;induction G with
      |nil=>intro i s F h;cases h;exact⟨kO _,rfl,λq=>by simp_all,kO _⟩
      | cons k G J=>
       intro i s F h;unfold gm_ at h;cases N:cO_ T f k.toNat (A+1) (loK p lo i) (hiK p hi i) s with
       |none=>rw[N]at h;cases h
       |some s1=>
        rw[N]at h;have⟨W,O,Z,Y⟩:=ih _ _ _ _ _ _ N;obtain⟨v1,v2,v3,v4⟩:=J _ _ _ h;omega
     obtain⟨W,O,Z,Y⟩:=key _ _ _ _ h;dsimp at W O Y;exact⟨o_,by rw[O];simp,λ_=>Z (.inl hk),o_⟩
theorem jZ_ (T:List Pg) (f h r:Nat) (lo hi:Y_) (st:WS) (A:T[h]?=some p):cO_ T (f+1) h r lo hi st=(match okD p h lo hi st with
 |false=>none
 |true=>match p.leaf with
  |true=>leafD p r ⟨st.met.set h true,st.deep,st.count⟩
  |false=>gm_ (λk i s=>cO_ T f k.toNat (r+1) (loK p lo i) (hiK p hi i) s) p.kids 0 ⟨st.met.set h true,st.deep,st.count⟩):=by
 rw[cO_,A]
end Go.Am
